/- Texts of this claim, those in one that belong together; printed by a program of this project. -/
import Derived.Lib.IndexLaws
import Derived.Lib.IndexMore
import Derived.Test.YtkkmmpofdcccmaaGreatDoorProg
import Derived.Test.YtkkmmpofdcccmaaGreatDoorKScriptLines3
set_option linter.unusedVariables false
set_option linter.unusedSimpArgs false
namespace Go.Proofs.YtkkmmpofdcccmaaGreatDoor.Col
open E Go.RowKit
def gapL : List UInt8 → Option (List UInt8 × List UInt8)
  | []=>none
  | c::r=>if isCC (c::r) = true then some ([],r.drop 1) else (gapL r).map fun q=>(c::q.1,q.2)
theorem gapL_eq : ∀ {l a b : List UInt8},gapL l = some (a,b) → l = a ++ 58::58::b
  | [],_,_,h=>by cases h
  | c::r,a,b,h=>by
    unfold gapL at h
    split at h
    · next hc =>
      obtain ⟨r2,hr⟩:=(isCC_iff _).1 hc
      cases h
      rw [hr]
      obtain ⟨_,rfl⟩:=List.cons.inj hr
      rfl
    · obtain ⟨q,hq,h⟩:=Option.map_eq_some_iff.1 h
      obtain ⟨a',b'⟩:=q
      cases h
      rw [gapL_eq hq]; rfl
theorem u8_58 (x : UInt8) : ((x.toNat : Int) == 58) = (x == 58):=by
  by_cases h : x = 58
  · subst h; rfl
  · have h2 : x.toNat ≠ 58:=fun e=>h (UInt8.toNat_inj.1 e)
    have h3 : (x == 58) = false:=by simp [h]
    rw [h3,beq_eq_false_iff_ne]; omega
theorem gap_loop (l : List UInt8) (hl : l.length < 1000000) : ∀ (k i : Nat),l.length - i = k → i ≤ l.length →
    crawlwayref09_gap.l0 (bs l) (i : Int) = some (match gapL (l.drop i) with | some (a,_)=>.ret ((i + a.length : Nat) : Int) | none=>.nx ()):=by
  intro k
  induction k with
  | zero =>
    intro i hk hi
    have w : wr .i64 ((i : Int) + 1) = ((i + 1 : Nat) : Int):=by rw [wr_i64 (by omega) (by omega)]; omega
    rw [crawlwayref09_gap.l0.eq_def,w,bs_size,if_neg (by rw [decide_eq_true_eq]; omega),List.drop_eq_nil_of_le (by omega)]; rfl
  | succ k ih =>
    intro i hk hi
    have w : wr .i64 ((i : Int) + 1) = ((i + 1 : Nat) : Int):=by rw [wr_i64 (by omega) (by omega)]; omega
    obtain ⟨c,hc,hd⟩:=drop_get l i (by omega)
    have hbc : bt (bs l) (i : Int) = (c.toNat : Int):=bt_at (by rw [bs_list]; exact hc)
    have e58:=u8_58
    have hi1:=ih (i + 1) (by omega) (by omega)
    rw [crawlwayref09_gap.l0.eq_def,w,bs_size]
    by_cases h1 : i + 1 < l.length
    · obtain ⟨d,hdd,hd2⟩:=drop_get l (i + 1) h1
      have hbd : bt (bs l) ((i + 1 : Nat) : Int) = (d.toNat : Int):=bt_at (by rw [bs_list]; exact hdd)
      rw [if_pos (decide_eq_true (by omega)),if_pos (by omega),hbc,e58,hbd,e58,hd,hi1,hd2]
      unfold gapL
      by_cases hc58 : c = 58
      · subst hc58
        rw [if_pos (by rfl),if_pos (by omega)]
        by_cases hd58 : d = 58
        · subst hd58
          rw [if_pos (by rfl),if_pos (by rfl)]; rfl
        · have hf : (d == 58) = false:=by simp [hd58]
          have hf2 : isCC (58::d::l.drop (i + 1 + 1)) = false:=by simp [isCC,hd58]
          rw [hf,if_neg Bool.false_ne_true,hf2,if_neg Bool.false_ne_true]
          have e : gapL (d::l.drop (i + 1 + 1)) = if isCC (d::l.drop (i + 1 + 1)) = true then some ([],(l.drop (i + 1 + 1)).drop 1) else (gapL (l.drop (i + 1 + 1))).map fun q=>(d::q.1,q.2):=rfl
          rw [← e]
          cases hg : gapL (d::l.drop (i + 1 + 1)) with
          | none=>rfl
          | some q=>obtain ⟨a,b⟩:=q; simp; omega
      · have hf : (c == 58) = false:=by simp [hc58]
        have hf2 : isCC (c::d::l.drop (i + 1 + 1)) = false:=by simp [isCC,hc58]
        rw [hf,if_neg Bool.false_ne_true,hf2,if_neg Bool.false_ne_true]
        have e : gapL (d::l.drop (i + 1 + 1)) = if isCC (d::l.drop (i + 1 + 1)) = true then some ([],(l.drop (i + 1 + 1)).drop 1) else (gapL (l.drop (i + 1 + 1))).map fun q=>(d::q.1,q.2):=rfl
        rw [← e]
        cases hg : gapL (d::l.drop (i + 1 + 1)) with
        | none=>rfl
        | some q=>obtain ⟨a,b⟩:=q; simp; omega
    · rw [if_neg (by rw [decide_eq_true_eq]; omega),hd,List.drop_eq_nil_of_le (show l.length ≤ i + 1 by omega)]
      rfl
theorem gap_ok (l : List UInt8) (hl : l.length < 1000000) : crawlwayref09_gap (bs l) = some (match gapL l with | some (a,_)=>(a.length : Int) | none=>-1):=by
  unfold crawlwayref09_gap
  have h:=gap_loop l hl l.length 0 (by omega) (by omega)
  rw [show ((0 : Nat) : Int) = 0 from rfl,List.drop_zero] at h
  rw [h,bindM_some]
  cases gapL l with
  | none=>rfl
  | some q=>obtain ⟨a,b⟩:=q; simp
theorem parts_other {c : UInt8} (hc : c ≠ 58) (r : List UInt8) : parts 58 (c::r) = (c::(parts 58 r).headD [])::(parts 58 r).tail:=by rw [parts,if_neg hc]
theorem spl_gap : ∀ (l : List UInt8),spl (parts 58 l) = (gapL l).map fun q=>(parts 58 q.1,parts 58 q.2)
  | []=>rfl
  | c::r=>by
    have ih:=spl_gap r
    have hne:=parts_ne 58 r
    unfold gapL
    by_cases hc : c = 58
    · subst hc
      rw [parts_colon,spl]
      by_cases hr : ∃ r2,r = 58::r2
      · rw [if_pos ((parts_head r).2 hr),if_pos ((isCC_iff _).2 (by obtain ⟨r2,h⟩:=hr; exact ⟨r2,by rw [h]⟩))]
        obtain ⟨r2,rfl⟩:=hr
        rw [parts_colon]; rfl
      · rw [if_neg (fun h=>hr ((parts_head r).1 h)),if_neg (fun h=>hr (by obtain ⟨r2,h⟩:=(isCC_iff _).1 h; exact ⟨r2,(List.cons.inj h).2⟩)),ih]
        cases gapL r with
        | none=>rfl
        | some q=>simp [parts_colon]
    · rw [parts_other hc]
      have hcc : ¬ isCC (c::r) = true:=fun h=>by obtain ⟨r2,h⟩:=(isCC_iff _).1 h; exact hc (List.cons.inj h).1
      rw [if_neg hcc]
      cases hp : parts 58 r with
      | nil=>exact absurd hp hne
      | cons h t =>
        rw [hp] at ih
        show spl ((c::h)::t) = _
        rw [spl] at ih ⊢
        have key : ∀ (q : Option (List UInt8 × List UInt8)),(∀ z,q = some z → ∃ h' t',parts 58 z.1 = h'::t') →
            ((q.map fun q=>(c::q.1,q.2)).map fun q=>(parts 58 q.1,parts 58 q.2)) = (q.map fun q=>(parts 58 q.1,parts 58 q.2)).map fun x=>((c::x.1.headD [])::x.1.tail,x.2):=by
          intro q _
          cases q with
          | none=>rfl
          | some z=>simp [parts_other hc]
        rw [key _ (fun z _=>by
          have:=parts_ne 58 z.1
          cases hz : parts 58 z.1 with
          | nil=>exact absurd hz this
          | cons a b=>exact ⟨a,b,rfl⟩),← ih]
        by_cases hcond : t.head? = some [] ∧ 2 ≤ t.length
        · rw [if_pos hcond,if_pos hcond]; rfl
        · rw [if_neg hcond,if_neg hcond]
          cases spl t with
          | none=>rfl
          | some z=>rfl
theorem lget_map {α β : Type} [Inhabited β] (f : α → β) (ps : List α) (i : Nat) (p : α) (h : ps[i]? = some p) : lget (ps.map f) (i : Int) = f p:=by
  unfold lget
  rw [Int.toNat_natCast,List.getD_eq_getElem?_getD,List.getElem?_map,h]; rfl
theorem list_loop (last : Bool) (ps : List (List UInt8)) (hps : ps.length < 1000000) (hsz : ∀ p ∈ ps,p.length < 1000000) : ∀ (k i : Nat) (acc : List Nat),ps.length - i = k → i ≤ ps.length → acc.length ≤ 2 * i →
    crawlwayref09_list.l0 last (ps.map bs) (ns acc) (i : Int) = some (match lst last (ps.drop i) with | some x=>.nx (ns (acc ++ x)) | none=>.ret ([],false)):=by
  intro k
  induction k with
  | zero =>
    intro i acc hk hi ha
    rw [crawlwayref09_list.l0.eq_def,if_neg (by rw [decide_eq_true_eq]; simp; omega),List.drop_eq_nil_of_le (by omega)]
    simp [lst]
  | succ k ih =>
    intro i acc hk hi ha
    have w : wr .i64 ((i : Int) + 1) = ((i + 1 : Nat) : Int):=by rw [wr_i64 (by omega) (by omega)]; omega
    obtain ⟨p,hp,hd⟩:=drop_get ps i (by omega)
    have hpm:=hsz p (List.mem_of_getElem? hp)
    have hlen : ((ps.map bs).length : Int) = (ps.length : Int):=by simp
    have w2 : wr .i64 ((ps.length : Int) - 1) = (ps.length : Int) - 1:=wr_i64 (by omega) (by omega)
    rw [crawlwayref09_list.l0.eq_def,hlen,if_pos (decide_eq_true (by omega)),if_pos (by omega),lget_map bs ps i p hp,Hex.refRead_eq,bindM_some,hd,lst]
    cases hr : Hex.read (bs p) with
    | some n =>
      show (if decide ((n : Int) ≥ 0) = true then _ else _) = _
      rw [if_pos (decide_eq_true (by omega)),if_pos (by rw [ns_len]; omega),w]
      have h2:=ih (i + 1) (acc ++ [n]) (by omega) (by omega) (by simp; omega)
      rw [ns_app] at h2
      show crawlwayref09_list.l0 last (ps.map bs) (ns acc ++ [(n : Int)]) _ = _
      have e : ns [n] = [(n : Int)]:=rfl
      rw [← e,h2]
      simp only
      cases lst last (ps.drop (i + 1)) with
      | none=>rfl
      | some x=>simp [ns_app,e]
    | none =>
      show (if decide ((-1 : Int) ≥ 0) = true then _ else _) = _
      rw [if_neg (by decide),if_pos (by omega),quad_parse_ref p hpm,bindM_some]
      simp only
      by_cases h0 : (quadP p).2 = 0
      · obtain ⟨m,hm,hq,_⟩:=quadP_back h0
        have hb : ((viOf (quadP p)).2 != 0) = false:=by rw [hq]; rfl
        rw [hb,if_neg Bool.false_ne_true]
        cases last with
        | false =>
          rw [if_pos (by rfl),if_neg (by simp)]
        | true =>
          rw [if_neg (by decide),w2]
          by_cases hl : i + 1 < ps.length
          · rw [if_pos (decide_eq_true (by omega)),if_neg]
            rintro ⟨_,_,h⟩
            have:=congrArg List.length h
            simp at this; omega
          · have hdn : ps.drop (i + 1) = []:=List.drop_eq_nil_of_le (by omega)
            rw [if_neg (by rw [decide_eq_true_eq]; omega),if_pos (by rw [ns_len]; omega),if_pos ⟨h0,rfl,hdn⟩,w]
            match m,hm with
            | [a,b,c,d],hm =>
              have la:=a.toNat_lt
              have lb:=b.toNat_lt
              have lc:=c.toNat_lt
              have ld:=d.toNat_lt
              rw [hq]
              have e0 : vget (v4 [a,b,c,d]) 0 = (a.toNat : Int):=vget_v4 hm 0 a rfl
              have e1 : vget (v4 [a,b,c,d]) 1 = (b.toNat : Int):=vget_v4 hm 1 b rfl
              have e2 : vget (v4 [a,b,c,d]) 2 = (c.toNat : Int):=vget_v4 hm 2 c rfl
              have e3 : vget (v4 [a,b,c,d]) 3 = (d.toNat : Int):=vget_v4 hm 3 d rfl
              have eq : q2 (v4 [a,b,c,d]) = [256 * a.toNat + b.toNat,256 * c.toNat + d.toNat]:=by unfold q2; rw [e0,e1,e2,e3]; rfl
              have g1 : ∀ x y : Nat,x < 256 → y < 256 → wr .i64 (wr .i64 (256 * wr .i64 (x : Int)) + wr .i64 (y : Int)) = ((256 * x + y : Nat) : Int):=by
                intro x y hx hy
                rw [wr_i64 (x:=(x : Int)) (by omega) (by omega),wr_i64 (x:=(y : Int)) (by omega) (by omega),wr_i64 (x:=256 * (x : Int)) (by omega) (by omega),wr_i64 (by omega) (by omega)]; omega
              show crawlwayref09_list.l0 true (ps.map bs) (ns acc ++ [wr .i64 (wr .i64 (256 * wr .i64 (vget (v4 [a,b,c,d]) 0)) + wr .i64 (vget (v4 [a,b,c,d]) 1)),wr .i64 (wr .i64 (256 * wr .i64 (vget (v4 [a,b,c,d]) 2)) + wr .i64 (vget (v4 [a,b,c,d]) 3))]) _ = some (Ctl.nx (ns (acc ++ q2 (v4 [a,b,c,d]))))
              rw [e0,e1,e2,e3,g1 _ _ la lb,g1 _ _ lc ld,eq,crawlwayref09_list.l0.eq_def,hlen,if_neg (by rw [decide_eq_true_eq]; omega),ns_app]; rfl
      · have hb : ((viOf (quadP p)).2 != 0) = true:=by rw [bne_iff_ne]; show (((quadP p).2 : Nat) : Int) ≠ 0; omega
        rw [hb,if_pos rfl,if_neg (fun h=>h0 h.1)]
def liOf (o : Option (List Nat)) : List Int × Bool:=match o with
  | some x=>(ns x,true)
  | none=>([],false)
theorem list_ok (l : List UInt8) (last : Bool) (hl : l.length < 100000) : crawlwayref09_list (bs l) last = some (liOf (lstE last (parts 58 l))):=by
  unfold crawlwayref09_list lstE
  by_cases h0 : l = []
  · subst h0
    rw [if_pos ((seq_nil []).2 rfl),if_pos (show parts 58 [] = [[]] from rfl)]; rfl
  · rw [if_neg (fun e=>h0 ((seq_nil l).1 e)),if_neg (fun e=>h0 ((parts_nil_iff l).1 e))]
    have h58 : ((58 : UInt8).toNat : Int) = 58:=rfl
    have hp:=parts_ref 58 l (by omega)
    rw [h58] at hp
    rw [hp,bindM_some]
    have:=list_loop last (parts 58 l) (by have:=parts_len 58 l; omega) (fun p hpm=>by have:=part_short 58 l p hpm; omega) (parts 58 l).length 0 [] (by omega) (by omega) (by simp)
    rw [show ns [] = ([] : List Int) from rfl,show ((0 : Nat) : Int) = 0 from rfl,List.drop_zero] at this
    rw [this,bindM_some]
    cases lst last (parts 58 l) with
    | none=>rfl
    | some x=>rfl
def Bytes (L : List Int) (R : Int → Vector Int 16 → Option (Vector Int 16)) : Prop:=∀ i o,R i o = if (decide (i < 8)) = true then (if (0 : Int) ≤ i ∧ i < (L.length : Int) then if (0 : Int) ≤ wr .i64 (2 * i) ∧ wr .i64 (2 * i) < 16 then if (0 : Int) ≤ i ∧ i < (L.length : Int) then if (0 : Int) ≤ wr .i64 ((wr .i64 (2 * i)) + 1) ∧ wr .i64 ((wr .i64 (2 * i)) + 1) < 16 then R (wr .i64 (i + 1)) (vset (vset o (wr .i64 (2 * i)) (wr .u8 (wr .i64 (Int.tdiv (lget L i) 256)))) (wr .i64 ((wr .i64 (2 * i)) + 1)) (wr .u8 (Int.tmod (lget L i) 256))) else none else none else none else none) else (some o)
theorem ref_bytes {R : Int → Vector Int 16 → Option (Vector Int 16)} {G : List Nat} (hR : Bytes (ns G) R) (h8 : G.length = 8) (hG : ∀ n ∈ G,n < 65536) : ∀ (k i : Nat),i + k = 8 → R (i : Int) (v16 (un (G.take i) ++ List.replicate (16 - 2 * i) 0)) = some (v16 (un G)):=by
  intro k
  induction k with
  | zero =>
    intro i hi
    obtain rfl : i = 8:=by omega
    rw [hR,if_neg (by decide),List.take_of_length_le (by omega)]
    simp
  | succ k ih =>
    intro i hi
    have hlt : i < 8:=by omega
    obtain ⟨n,hn⟩ : ∃ n,G[i]? = some n:=⟨_,List.getElem?_eq_getElem (by omega)⟩
    have hn6:=hG n (List.mem_of_getElem? hn)
    have w1 : wr .i64 (2 * (i : Int)) = ((2 * i : Nat) : Int):=by rw [wr_i64 (by omega) (by omega)]; omega
    have w2 : wr .i64 (((2 * i : Nat) : Int) + 1) = ((2 * i + 1 : Nat) : Int):=by rw [wr_i64 (by omega) (by omega)]; omega
    have w3 : wr .i64 ((i : Int) + 1) = ((i + 1 : Nat) : Int):=by rw [wr_i64 (by omega) (by omega)]; omega
    have hv : lget (ns G) (i : Int) = (n : Int):=by unfold lget; rw [Int.toNat_natCast]; exact ns_get G i n hn
    have hl : ((ns G).length : Int) = 8:=by rw [ns_len,h8]; rfl
    have d1 : Int.tdiv (n : Int) 256 = ((n / 256 : Nat) : Int):=by rw [Int.tdiv_eq_ediv_of_nonneg (by omega)]; omega
    have d2 : Int.tmod (n : Int) 256 = ((n % 256 : Nat) : Int):=by rw [Int.tmod_eq_emod_of_nonneg (by omega)]; omega
    rw [hR,if_pos (decide_eq_true (by omega)),hl,if_pos (by omega),w1,w2,if_pos (by omega),if_pos (by omega),if_pos (by omega),w3,hv,d1,d2,put2 G h8 i n hlt hn hn6]
    · exact ih (i + 1) (by omega)
    · rw [wr_i64 (by omega) (by omega),wr_u8 (by omega) (by omega)]
    · rw [wr_u8 (by omega) (by omega)]
theorem bytes0 (L : List Int) (b : Bool) : Bytes L fun i o=>crawlwayref09_Parse.l0 (L,b) i o:=fun i o=>by
  show crawlwayref09_Parse.l0 (L,b) i o = _
  rw [crawlwayref09_Parse.l0.eq_def]
theorem bytes3 (q y : List Int) (b : Bool) : Bytes (q ++ y) fun i o=>crawlwayref09_Parse.l3 (y,b) q i o:=fun i o=>by
  show crawlwayref09_Parse.l3 (y,b) q i o = _
  rw [crawlwayref09_Parse.l3.eq_def]
theorem lst_len (last : Bool) : ∀ (ps : List (List UInt8)) (x : List Nat),lst last ps = some x → x.length ≤ ps.length + 1
  | [],x,h=>by cases h; simp
  | p::r,x,h=>by
    rw [lst] at h
    cases hr : Hex.read (bs p) with
    | some m =>
      rw [hr] at h
      obtain ⟨y,hy,rfl⟩:=Option.map_eq_some_iff.1 h
      have:=lst_len last r y hy
      simp; omega
    | none =>
      rw [hr] at h
      simp only at h
      split at h
      · cases h; simp [q2]
      · cases h
theorem lstE_len {last : Bool} {ps : List (List UInt8)} {x : List Nat} (h : lstE last ps = some x) : x.length ≤ ps.length + 1:=by
  unfold lstE at h
  split at h
  · cases h; simp
  · exact lst_len last ps x h
theorem copy_loop (G : List Nat) (hG : G.length < 1000000) (b : Bool) : ∀ (k i : Nat),G.length - i = k → i ≤ G.length → crawlwayref09_Parse.l1 (ns G,b) (ns (G.take i)) (i : Int) = some (ns G):=by
  intro k
  induction k with
  | zero =>
    intro i hk hi
    rw [crawlwayref09_Parse.l1.eq_def]
    show (if decide ((i : Int) < ((ns G).length : Int)) = true then _ else _) = _
    rw [ns_len,if_neg (by rw [decide_eq_true_eq]; omega),List.take_of_length_le (by omega)]
  | succ k ih =>
    intro i hk hi
    obtain ⟨n,hn⟩ : ∃ n,G[i]? = some n:=⟨_,List.getElem?_eq_getElem (by omega)⟩
    have w : wr .i64 ((i : Int) + 1) = ((i + 1 : Nat) : Int):=by rw [wr_i64 (by omega) (by omega)]; omega
    have hv : lget (ns G) (i : Int) = (n : Int):=by unfold lget; rw [Int.toNat_natCast]; exact ns_get G i n hn
    have h2:=ih (i + 1) (by omega) (by omega)
    rw [List.take_add_one,hn,ns_app] at h2
    rw [crawlwayref09_Parse.l1.eq_def]
    show (if decide ((i : Int) < ((ns G).length : Int)) = true then (if (0 : Int) ≤ (i : Int) ∧ (i : Int) < ((ns G).length : Int) then if (ns (G.take i)).length.succ * 8 ≤ _ then crawlwayref09_Parse.l1 (ns G,b) (ns (G.take i) ++ [lget (ns G) (i : Int)]) (wr .i64 ((i : Int) + 1)) else none else none) else _) = _
    rw [ns_len,ns_len,if_pos (decide_eq_true (by omega)),if_pos (by omega),if_pos (by rw [List.length_take]; omega),hv,w]
    exact h2
theorem zero_loop (y : List Int) (b : Bool) (hy : y.length ≤ 8) : ∀ (k : Nat) (G : List Nat),8 - (G.length + y.length) = k → G.length ≤ 8 → crawlwayref09_Parse.l2 (y,b) (ns G) = some (ns (G ++ List.replicate (8 - (G.length + y.length)) 0)):=by
  intro k
  induction k with
  | zero =>
    intro G hk hG
    rw [crawlwayref09_Parse.l2.eq_def]
    show (if decide (wr .i64 (((ns G).length : Int) + (y.length : Int)) < 8) = true then _ else _) = _
    rw [ns_len,wr_i64 (by omega) (by omega),if_neg (by rw [decide_eq_true_eq]; omega),hk]
    simp
  | succ k ih =>
    intro G hk hG
    have h2:=ih (G ++ [0]) (by simp; omega) (by simp; omega)
    rw [ns_app] at h2
    rw [crawlwayref09_Parse.l2.eq_def]
    show (if decide (wr .i64 (((ns G).length : Int) + (y.length : Int)) < 8) = true then (if (ns G).length.succ * 8 ≤ _ then crawlwayref09_Parse.l2 (y,b) (ns G ++ [0]) else none) else _) = _
    rw [ns_len,wr_i64 (by omega) (by omega),if_pos (decide_eq_true (by omega)),if_pos (by omega)]
    show crawlwayref09_Parse.l2 (y,b) (ns G ++ ns [0]) = _
    rw [h2,List.append_assoc,hk]
    simp only [List.length_append,List.length_cons,List.length_nil]
    rw [show 8 - (G.length + (0 + 1) + y.length) = k by omega,List.replicate_succ]
    rfl
theorem ref_parse (l : List UInt8) (hb : l.length < 100000) : crawlwayref09_Parse (bs l) = some (parseV l,(parseL l).isSome):=by
  unfold crawlwayref09_Parse parseV
  have hgap:=gap_ok l (by omega)
  have hspl:=spl_gap l
  cases hg : gapL l with
  | none =>
    rw [hg] at hspl
    have hspl' : spl (parts 58 l) = none:=hspl
    have hgap' : crawlwayref09_gap (bs l) = some (-1):=by rw [hgap,hg]
    rw [hgap',bindM_some]
    show (if decide ((-1 : Int) < 0) = true then _ else _) = _
    rw [if_pos (by decide),list_ok l true hb,bindM_some]
    have e : lstE true (parts 58 l) = some [] ∧ l = [] ∨ lstE true (parts 58 l) = lst true (parts 58 l) ∧ l ≠ []:=by
      unfold lstE
      by_cases h0 : l = []
      · subst h0; exact .inl ⟨rfl,rfl⟩
      · exact .inr ⟨if_neg (fun e=>h0 ((parts_nil_iff l).1 e)),h0⟩
    rcases e with ⟨e,h0⟩ | ⟨e,h0⟩
    · subst h0
      rw [e]
      have e2 : parseL [] = none:=rfl
      rw [e2]
      show (if (!true) = true then _ else (if ((0 : Int) != 8) = true then _ else _)) = _
      rw [if_neg (by decide),if_pos (by decide),v16_zero]; rfl
    · rw [e]
      have e2 : parseL l = (lst true (parts 58 l)).bind fun x=>if x.length = 8 then some x else none:=by unfold parseL; rw [hspl']
      have hok : ∀ {G : List Nat},parseL l = some G → G.length = 8 ∧ ∀ n ∈ G,n < 65536:=fun h=>parseL_ok h
      rw [e2] at hok ⊢
      cases hl : lst true (parts 58 l) with
      | none =>
        show (if (!false) = true then _ else _) = _
        rw [if_pos (show (!false) = true from rfl),v16_zero]; rfl
      | some x =>
        rw [hl] at hok
        show (if (!true) = true then _ else (if (((ns x).length : Int) != 8) = true then _ else _)) = _
        rw [if_neg (by decide),ns_len]
        simp only [Option.bind_some] at hok ⊢
        by_cases h8 : x.length = 8
        · have hne : ((x.length : Int) != 8) = false:=by rw [h8]; rfl
          rw [if_pos h8] at hok ⊢
          have hlt:=(hok rfl).2
          rw [hne,if_neg Bool.false_ne_true,v16_zero]
          have:=ref_bytes (bytes0 (ns x) true) h8 hlt 8 0 rfl
          rw [show 16 - 2 * 0 = 16 from rfl,List.take_zero,show un [] = [] from rfl,List.nil_append,show ((0 : Nat) : Int) = 0 from rfl] at this
          show (crawlwayref09_Parse.l0 (ns x,true) 0 (v16 (List.replicate 16 0)) >>= fun q10=>_) = _
          rw [this]; rfl
        · have hne : ((x.length : Int) != 8) = true:=by rw [bne_iff_ne]; omega
          rw [hne,if_pos rfl,if_neg h8,v16_zero]; rfl
  | some q =>
    obtain ⟨a,b⟩:=q
    rw [hg] at hspl
    have hspl' : spl (parts 58 l) = some (parts 58 a,parts 58 b):=hspl
    have hl:=gapL_eq hg
    have hlen : l.length = a.length + (b.length + 2):=by rw [hl]; simp
    have hgap' : crawlwayref09_gap (bs l) = some (a.length : Int):=by rw [hgap,hg]
    rw [hgap',bindM_some]
    have w2 : wr .i64 ((a.length : Int) + 2) = ((a.length + 2 : Nat) : Int):=by rw [wr_i64 (by omega) (by omega)]; omega
    have x1 : (bs l).extract (Int.toNat 0) (Int.toNat (a.length : Int)) = bs a:=by
      rw [Int.toNat_natCast,bs_extract,hl,List.take_left' rfl]; rfl
    have x2 : (bs l).extract (Int.toNat ((a.length + 2 : Nat) : Int)) (Int.toNat ((bs l).size : Int)) = bs b:=by
      rw [Int.toNat_natCast,Int.toNat_natCast,bs_extract,bs_size,List.take_of_length_le (Nat.le_refl _),hl,List.drop_append,List.drop_eq_nil_of_le (by omega),show a.length + 2 - a.length = 2 by omega]; rfl
    have hsz : (bs l).size = l.length:=bs_size l
    rw [if_neg (by rw [decide_eq_true_eq]; omega),if_pos (by rw [hsz]; omega),x1,list_ok a false (by omega),bindM_some,w2,if_pos (by rw [hsz]; omega),x2,list_ok b true (by omega),bindM_some]
    have e2 : parseL l = (lstE false (parts 58 a)).bind fun x=>(lstE true (parts 58 b)).bind fun y=>if x.length + y.length ≤ 7 then some (x ++ (List.replicate (8 - x.length - y.length) 0 ++ y)) else none:=by unfold parseL; rw [hspl']
    have hok : ∀ {G : List Nat},parseL l = some G → G.length = 8 ∧ ∀ n ∈ G,n < 65536:=fun h=>parseL_ok h
    rw [e2] at hok ⊢
    cases hx : lstE false (parts 58 a) with
    | none =>
      show (if (!false) = true then _ else _) = _
      rw [if_pos (show (!false) = true from rfl),v16_zero]; rfl
    | some x =>
      rw [hx] at hok
      cases hy : lstE true (parts 58 b) with
      | none =>
        show (if (!true) = true then _ else (if (!false) = true then _ else _)) = _
        rw [if_neg (by decide),if_pos (show (!false) = true from rfl),v16_zero]; rfl
      | some y =>
        rw [hy] at hok
        simp only [Option.bind_some] at hok ⊢
        have hxl : x.length < 1000000:=by have:=lstE_len hx; have:=parts_len 58 a; omega
        have hyl : y.length < 1000000:=by have:=lstE_len hy; have:=parts_len 58 b; omega
        show (if (!true) = true then _ else (if (!true) = true then _ else (if decide (wr .i64 (((ns x).length : Int) + ((ns y).length : Int)) > 7) = true then _ else _))) = _
        rw [if_neg (by decide),if_neg (by decide),ns_len,ns_len,wr_i64 (by omega) (by omega)]
        by_cases h7 : x.length + y.length ≤ 7
        · rw [if_neg (by rw [decide_eq_true_eq]; omega)]
          rw [if_pos h7] at hok ⊢
          obtain ⟨h8,hlt⟩:=hok rfl
          have c1:=copy_loop x hxl true x.length 0 (by omega) (by omega)
          rw [List.take_zero,show ns [] = ([] : List Int) from rfl,show ((0 : Nat) : Int) = 0 from rfl] at c1
          show (crawlwayref09_Parse.l1 (ns x,true) [] 0 >>= fun q37=>crawlwayref09_Parse.l2 (ns y,true) q37 >>= fun q55=>_) = _
          rw [c1,bindM_some,zero_loop (ns y) true (by rw [ns_len]; omega) _ x rfl (by omega),bindM_some]
          rw [show liOf (some y) = (ns y,true) from rfl,ns_len,ns_len,if_pos (by simp; omega),v16_zero]
          have b3:=bytes3 (ns (x ++ List.replicate (8 - (x.length + y.length)) 0)) (ns y) true
          have eG : ns (x ++ List.replicate (8 - (x.length + y.length)) 0) ++ ns y = ns (x ++ (List.replicate (8 - x.length - y.length) 0 ++ y)):=by
            rw [← ns_app,List.append_assoc,Nat.sub_sub]
          rw [eG] at b3
          have:=ref_bytes b3 h8 hlt 8 0 rfl
          rw [show 16 - 2 * 0 = 16 from rfl,List.take_zero,show un [] = [] from rfl,List.nil_append,show ((0 : Nat) : Int) = 0 from rfl] at this
          rw [this]; rfl
        · rw [if_pos (decide_eq_true (by omega)),if_neg h7,v16_zero]; rfl
end Go.Proofs.YtkkmmpofdcccmaaGreatDoor.Col
namespace Go.Proofs.YtkkmmpofdcccmaaGreatDoor.Col
open E Go.RowKit
theorem gr_get : ∀ (l : List UInt8) (i : Nat) (a b : UInt8), l[2 * i]? = some a → l[2 * i + 1]? = some b → (gr l)[i]? = some (256 * a.toNat + b.toNat)
  | x :: y :: r, 0, a, b, ha, hb => by simp at ha hb; subst ha hb; rfl
  | x :: y :: r, i + 1, a, b, ha, hb => by
    have e1 : 2 * (i + 1) = 2 * i + 1 + 1 := by omega
    have e2 : 2 * (i + 1) + 1 = 2 * i + 1 + 1 + 1 := by omega
    rw [e1] at ha
    rw [e2] at hb
    simp only [List.getElem?_cons_succ] at ha hb
    exact gr_get r i a b ha hb
  | [x], i, a, b, ha, hb => by
    cases i with
    | zero => simp at hb
    | succ i => have : 2 * (i + 1) = (2 * i + 1) + 1 := by omega
                rw [this] at ha; simp at ha
  | [], i, a, b, ha, hb => by simp at ha
theorem ofBig2 (a b : UInt8) : endian_OfBig (ob [a,b]) = some (((256 * a.toNat + b.toNat : Nat) : Int),0):=by
  have ha:=a.toNat_lt
  have hb:=b.toNat_lt
  have e1 : ior .u64 (ishl .u64 0 8) (wr .u64 (a.toNat : Int)) = (a.toNat : Int):=by
    rw [wr_u64 (by omega) (by omega),show (8 : Int) = ((8 : Nat) : Int) from rfl,show (0 : Int) = ((0 : Nat) : Int) from rfl,ishl_nat .u64 rfl 0 8 (by decide),ior_nat .u64 rfl _ _ (by decide) (by show _ < 18446744073709551616; omega)]
    simp
  have e2 : ior .u64 (ishl .u64 (a.toNat : Int) 8) (wr .u64 (b.toNat : Int)) = ((256 * a.toNat + b.toNat : Nat) : Int):=by
    rw [wr_u64 (by omega) (by omega),show (8 : Int) = ((8 : Nat) : Int) from rfl,ishl_nat .u64 rfl a.toNat 8 (by decide)]
    have e : (a.toNat * 2 ^ 8) % 2 ^ IntKind.u64.bits = a.toNat * 256:=by show (a.toNat * 256) % 18446744073709551616 = _; omega
    rw [e,ior_nat .u64 rfl _ _ (by show _ < 18446744073709551616; omega) (by show _ < 18446744073709551616; omega)]
    have h2:=Nat.two_pow_add_eq_or_of_lt (i:=8) (b:=b.toNat) (by simpa using hb) a.toNat
    have e3 : 2 ^ 8 * a.toNat = a.toNat * 256:=by omega
    rw [e3] at h2
    rw [← h2,Nat.mul_comm a.toNat 256]
  have l0 : lget (ob [a,b]) 0 = (a.toNat : Int):=rfl
  have l1 : lget (ob [a,b]) 1 = (b.toNat : Int):=rfl
  have hl : ((ob [a,b]).length : Int) = 2:=rfl
  unfold endian_OfBig endian_sized
  rw [hl,if_pos (by decide),bindM_some]
  show (if (!true) = true then _ else _) = _
  rw [if_neg (by decide),endian_OfBig.l0.eq_def,hl,if_pos (by decide),if_pos (by decide),l0,e1,show wr .i64 (0 + 1) = 1 from rfl,endian_OfBig.l0.eq_def,hl,if_pos (by decide),if_pos (by decide),l1,e2,show wr .i64 (1 + 1) = 2 from rfl,endian_OfBig.l0.eq_def,hl,if_neg (by decide),bindM_some]
theorem groups_loop {m : List UInt8} (hm : m.length = 16) : ∀ (k i : Nat),i + k = 8 → colon_groups.l0 (v16 m) (i : Int) (gv ((gr m).take i)) = some (gv (gr m)):=by
  have hg : (gr m).length = 8:=by rw [gr_len,hm]
  intro k
  induction k with
  | zero =>
    intro i hi
    obtain rfl : i = 8:=by omega
    rw [colon_groups.l0.eq_def,if_neg (by decide),List.take_of_length_le (by omega)]
  | succ k ih =>
    intro i hi
    have w1 : wr .i64 (2 * (i : Int)) = ((2 * i : Nat) : Int):=by rw [wr_i64 (by omega) (by omega)]; omega
    have w2 : wr .i64 (((2 * i : Nat) : Int) + 2) = ((2 * i + 2 : Nat) : Int):=by rw [wr_i64 (by omega) (by omega)]; omega
    have w3 : wr .i64 ((i : Int) + 1) = ((i + 1 : Nat) : Int):=by rw [wr_i64 (by omega) (by omega)]; omega
    obtain ⟨a,ha⟩ : ∃ a,m[2 * i]? = some a:=⟨_,List.getElem?_eq_getElem (by omega)⟩
    obtain ⟨b,hb⟩ : ∃ b,m[2 * i + 1]? = some b:=⟨_,List.getElem?_eq_getElem (by omega)⟩
    have hn:=gr_get m i a b ha hb
    have la:=a.toNat_lt
    have lb:=b.toNat_lt
    have hs : lsub (Vector.toList (v16 m)) ((2 * i : Nat) : Int) ((2 * i + 2 : Nat) : Int) = ob [a,b]:=by
      unfold lsub
      rw [v16_toList hm,Int.toNat_natCast,Int.toNat_natCast]
      unfold ob
      rw [← List.map_take,← List.map_drop]
      congr 1
      rw [List.take_add_one,List.take_add_one,ha,hb]
      have hl : (m.take (2 * i)).length = 2 * i:=by rw [List.length_take]; omega
      simp only [Option.toList]
      rw [List.append_assoc,List.drop_left' hl]; rfl
    have hi8 : ((gr m).take i).length = i:=by rw [List.length_take]; omega
    rw [colon_groups.l0.eq_def,if_pos (decide_eq_true (by omega)),w1,w2,if_pos (by omega),hs,ofBig2,bindM_some,if_pos (by omega),w3]
    show colon_groups.l0 (v16 m) _ (vset (gv ((gr m).take i)) (i : Int) (wr .u16 ((256 * a.toNat + b.toNat : Nat) : Int))) = _
    rw [wr_u16 (by omega) (by omega)]
    have h2:=gv_set (G:=(gr m).take i) (by omega) (256 * a.toNat + b.toNat)
    rw [hi8] at h2
    have h3:=ih (i + 1) (by omega)
    rw [List.take_add_one,hn] at h3
    rw [h2]; exact h3
theorem groups_ok {m : List UInt8} (hm : m.length = 16) : colon_groups (v16 m) = some (gv (gr m)):=by
  unfold colon_groups
  have:=groups_loop hm 8 0 rfl
  rw [List.take_zero,← gv_zero,show ((0 : Nat) : Int) = 0 from rfl] at this
  rw [this,bindM_some]
theorem zp_get {G : List Nat} {i n : Nat} (h : G[i]? = some n) : (zp G)[i]? = some (n == 0):=by unfold zp; rw [List.getElem?_map,h]; rfl
def ii (q : Nat × Nat) : Int × Int:=((q.1 : Int),(q.2 : Int))
theorem int_zero (n : Nat) : ((n : Int) != 0) = !(n == 0):=by
  by_cases h : n = 0
  · subst h; rfl
  · have h2 : (n == 0) = false:=by simp [h]
    rw [h2]
    have : ((n : Int) != 0) = true:=by rw [bne_iff_ne]; omega
    rw [this]; rfl
theorem longest_loop {G : List Nat} (h8 : G.length = 8) : ∀ (k i p z now : Nat),i + k = 8 → p ≤ 8 → z ≤ 8 → now ≤ i → colon_longest.l0 (gv G) (p : Int) (z : Int) (now : Int) (i : Int) = some (ii (lgC ((zp G).drop i) i p z now)):=by
  intro k
  induction k with
  | zero =>
    intro i p z now hi hp hz hn
    obtain rfl : i = 8:=by omega
    rw [colon_longest.l0.eq_def,if_neg (by decide),List.drop_eq_nil_of_le (by rw [zp_len]; omega)]; rfl
  | succ k ih =>
    intro i p z now hi hp hz hn
    obtain ⟨n,hn'⟩ : ∃ n,G[i]? = some n:=⟨_,List.getElem?_eq_getElem (by omega)⟩
    obtain ⟨c,hc,hd⟩:=drop_get (zp G) i (by rw [zp_len]; omega)
    rw [zp_get hn'] at hc
    cases hc
    have w1 : wr .i64 ((i : Int) + 1) = ((i + 1 : Nat) : Int):=by rw [wr_i64 (by omega) (by omega)]; omega
    have w2 : wr .i64 ((now : Int) + 1) = ((now + 1 : Nat) : Int):=by rw [wr_i64 (by omega) (by omega)]; omega
    have w3 : wr .i64 (((i + 1 : Nat) : Int) - ((now + 1 : Nat) : Int)) = ((i + 1 - (now + 1) : Nat) : Int):=by rw [wr_i64 (by omega) (by omega)]; omega
    rw [colon_longest.l0.eq_def,if_pos (decide_eq_true (by omega)),if_pos (by omega),gv_get h8 i n hn',int_zero,w1,w2,w3,hd,lgC]
    cases hb : (n == 0) with
    | false =>
      rw [if_pos (show (!false) = true from rfl),if_pos (show false = false from rfl)]
      exact ih (i + 1) p z 0 (by omega) hp hz (by omega)
    | true =>
      rw [if_neg (show ¬ (!true) = true by decide),if_neg (show ¬ true = false by decide)]
      by_cases hg : now + 1 > z
      · rw [if_pos (decide_eq_true (by omega)),if_pos hg]
        exact ih (i + 1) _ _ _ (by omega) (by omega) (by omega) (by omega)
      · rw [if_neg (by rw [decide_eq_true_eq]; omega),if_neg hg]
        exact ih (i + 1) _ _ _ (by omega) hp hz (by omega)
theorem longest_ok {G : List Nat} (h8 : G.length = 8) : colon_longest (gv G) = some (ii (lg (zp G))):=by
  unfold colon_longest
  have:=longest_loop h8 8 0 0 0 0 rfl (by omega) (by omega) (by omega)
  rw [List.drop_zero,lg_code (by rw [zp_len,h8])] at this
  rw [show (0 : Int) = ((0 : Nat) : Int) from rfl,this,bindM_some]
theorem row_loop (A : List Nat) (hA : ∀ n ∈ A,n < 65536) (hl : A.length ≤ 8) : ∀ (k i : Nat),A.length - i = k → i ≤ A.length → colon_row.l0 (ns A) ((A.take i).map Hex.grp) (i : Int) = some (A.map Hex.grp):=by
  intro k
  induction k with
  | zero =>
    intro i hk hi
    rw [colon_row.l0.eq_def,ns_len,if_neg (by rw [decide_eq_true_eq]; omega),List.take_of_length_le (by omega)]
  | succ k ih =>
    intro i hk hi
    obtain ⟨n,hn⟩ : ∃ n,A[i]? = some n:=⟨_,List.getElem?_eq_getElem (by omega)⟩
    have w : wr .i64 ((i : Int) + 1) = ((i + 1 : Nat) : Int):=by rw [wr_i64 (by omega) (by omega)]; omega
    have hv : lget (ns A) (i : Int) = (n : Int):=by unfold lget; rw [Int.toNat_natCast]; exact ns_get A i n hn
    have h2:=ih (i + 1) (by omega) (by omega)
    rw [List.take_add_one,hn,List.map_append] at h2
    rw [colon_row.l0.eq_def,ns_len,if_pos (decide_eq_true (by omega)),if_pos (by omega),hv,Hex.group_eq n (hA n (List.mem_of_getElem? hn)),bindM_some,if_pos (by rw [List.length_map,List.length_take]; omega),w]
    exact h2
theorem row_join : ∀ (A : List Nat),[58].intercalate (A.map g1) = rowL A
  | []=>rfl
  | [n]=>by simp [List.intercalate,rowL]
  | n::m::r=>by
    have:=row_join (m::r)
    simp only [List.intercalate,List.map_cons,List.intersperse,List.flatten_cons,rowL] at this ⊢
    rw [this]; rfl
theorem bjoin_row (A : List Nat) : bjoin (A.map Hex.grp) (⟨#[58]⟩ : ByteArray) = bs (rowL A):=by
  apply mk_inj
  rw [bs_list,← row_join]
  unfold bjoin Lib.join
  simp only [List.map_map]
  rfl
theorem row_ok (A : List Nat) (hA : ∀ n ∈ A,n < 65536) (hl : A.length ≤ 8) : colon_row (ns A) = some (bs (rowL A)):=by
  unfold colon_row
  have h:=row_loop A hA hl A.length 0 (by omega) (by omega)
  rw [List.take_zero,List.map_nil,show ((0 : Nat) : Int) = 0 from rfl] at h
  have hs:=rowL_len A hA
  rw [h,bindM_some,if_pos (by rw [List.length_map]; omega),bjoin_row,if_pos (by rw [bs_size]; omega)]
theorem bs_app (l k : List UInt8) : bs l ++ bs k = bs (l ++ k):=by apply mk_inj; rw [append_list,bs_list,bs_list,bs_list]
theorem text_ok {m : List UInt8} (hm : m.length = 16) : colon_Text (v16 m) = some (bs (textL (gr m))):=by
  have hg : (gr m).length = 8:=by rw [gr_len,hm]
  have hlt:=gr_lt m
  have hf:=lg_fits (z:=zp (gr m)) (by rw [zp_len,hg])
  have hgl : (gv (gr m)).toList = ns (gr m):=by rw [gv_toList (by omega),hg]; simp
  unfold colon_Text
  rw [groups_ok hm,bindM_some,longest_ok hg,bindM_some,hgl]
  unfold textL
  generalize lg (zp (gr m)) = q at hf
  obtain ⟨p,z⟩:=q
  simp only at hf
  show (if decide ((z : Int) < 2) = true then _ else (if (0 : Int) ≤ 0 ∧ (0 : Int) ≤ (p : Int) ∧ (p : Int) ≤ 8 then colon_row (lsub (ns (gr m)) 0 (p : Int)) >>= fun t8=>if t8.size + (⟨#[58,58]⟩ : ByteArray).size ≤ 140737488355328 then if (0 : Int) ≤ wr .i64 ((p : Int) + (z : Int)) ∧ wr .i64 ((p : Int) + (z : Int)) ≤ 8 ∧ (8 : Int) ≤ 8 then colon_row (lsub (ns (gr m)) (wr .i64 ((p : Int) + (z : Int))) 8) >>= fun t11=>if (t8 ++ (⟨#[58,58]⟩ : ByteArray)).size + t11.size ≤ 140737488355328 then some ((t8 ++ (⟨#[58,58]⟩ : ByteArray)) ++ t11) else none else none else none else none)) = some (bs (if z < 2 then rowL (gr m) else rowL ((gr m).take p) ++ 58::58::rowL ((gr m).drop (p + z))))
  by_cases h2 : z < 2
  · rw [if_pos (decide_eq_true (by omega)),if_pos h2,row_ok _ hlt (by omega)]; rfl
  · have w : wr .i64 ((p : Int) + (z : Int)) = ((p + z : Nat) : Int):=by rw [wr_i64 (by omega) (by omega)]; omega
    have s1 : lsub (ns (gr m)) 0 (p : Int) = ns ((gr m).take p):=by unfold lsub; rw [Int.toNat_natCast,ns_take]; rfl
    have s2 : lsub (ns (gr m)) ((p + z : Nat) : Int) 8 = ns ((gr m).drop (p + z)):=by
      unfold lsub; rw [Int.toNat_natCast,show Int.toNat 8 = 8 from rfl,List.take_of_length_le (by rw [ns_len]; omega),ns_drop]
    have hA : ∀ n ∈ (gr m).take p,n < 65536:=fun n hn=>hlt n (List.mem_of_mem_take hn)
    have hB : ∀ n ∈ (gr m).drop (p + z),n < 65536:=fun n hn=>hlt n (List.mem_of_mem_drop hn)
    have lA:=rowL_len _ hA
    have lB:=rowL_len _ hB
    rw [List.length_take] at lA
    rw [List.length_drop] at lB
    have h58 : (⟨#[58,58]⟩ : ByteArray) = bs [58,58]:=rfl
    rw [if_neg (by rw [decide_eq_true_eq]; omega),if_pos (by omega),s1,row_ok _ hA (by rw [List.length_take]; omega),bindM_some,h58,if_pos (by rw [bs_size,bs_size]; simp only [List.length_cons,List.length_nil]; omega),w,if_pos (by omega),s2,row_ok _ hB (by rw [List.length_drop]; omega),bindM_some,bs_app,if_pos (by rw [bs_size,bs_size]; simp only [List.length_append,List.length_cons,List.length_nil]; omega),bs_app,if_neg h2]
    rw [List.append_assoc]; rfl
end Go.Proofs.YtkkmmpofdcccmaaGreatDoor.Col
namespace Go.Proofs.YtkkmmpofdcccmaaGreatDoor.Col
open E Go.RowKit
theorem refGroups_loop {m : List UInt8} (hm : m.length = 16) : ∀ (k i : Nat),i + k = 8 → crawlwayref09_groups.l0 (v16 m) (i : Int) (gv ((gr m).take i)) = some (gv (gr m)):=by
  have hg : (gr m).length = 8:=by rw [gr_len,hm]
  intro k
  induction k with
  | zero =>
    intro i hi
    obtain rfl : i = 8:=by omega
    rw [crawlwayref09_groups.l0.eq_def,if_neg (by decide),List.take_of_length_le (by omega)]
  | succ k ih =>
    intro i hi
    have w1 : wr .i64 (2 * (i : Int)) = ((2 * i : Nat) : Int):=by rw [wr_i64 (by omega) (by omega)]; omega
    have w2 : wr .i64 (((2 * i : Nat) : Int) + 1) = ((2 * i + 1 : Nat) : Int):=by rw [wr_i64 (by omega) (by omega)]; omega
    have w3 : wr .i64 ((i : Int) + 1) = ((i + 1 : Nat) : Int):=by rw [wr_i64 (by omega) (by omega)]; omega
    obtain ⟨a,ha⟩ : ∃ a,m[2 * i]? = some a:=⟨_,List.getElem?_eq_getElem (by omega)⟩
    obtain ⟨b,hb⟩ : ∃ b,m[2 * i + 1]? = some b:=⟨_,List.getElem?_eq_getElem (by omega)⟩
    have hn:=gr_get m i a b ha hb
    have la:=a.toNat_lt
    have lb:=b.toNat_lt
    have va:=v16_get hm (2 * i) a ha
    have vb:=v16_get hm (2 * i + 1) b hb
    have hi8 : ((gr m).take i).length = i:=by rw [List.length_take]; omega
    have e : wr .i64 (wr .i64 (256 * wr .i64 (a.toNat : Int)) + wr .i64 (b.toNat : Int)) = ((256 * a.toNat + b.toNat : Nat) : Int):=by
      rw [wr_i64 (x:=(a.toNat : Int)) (by omega) (by omega),wr_i64 (x:=(b.toNat : Int)) (by omega) (by omega),wr_i64 (x:=256 * (a.toNat : Int)) (by omega) (by omega),wr_i64 (by omega) (by omega)]; omega
    have h2:=gv_set (G:=(gr m).take i) (by omega) (256 * a.toNat + b.toNat)
    rw [hi8] at h2
    have h3:=ih (i + 1) (by omega)
    rw [List.take_add_one,hn] at h3
    rw [crawlwayref09_groups.l0.eq_def,if_pos (decide_eq_true (by omega)),w1,w2,if_pos (by omega),if_pos (by omega),if_pos (by omega),w3,va,vb,e,h2]
    exact h3
theorem refGroups_ok {m : List UInt8} (hm : m.length = 16) : crawlwayref09_groups (v16 m) = some (gv (gr m)):=by
  unfold crawlwayref09_groups
  have:=refGroups_loop hm 8 0 rfl
  rw [List.take_zero,← gv_zero,show ((0 : Nat) : Int) = 0 from rfl] at this
  rw [this,bindM_some]
theorem run_loop {G : List Nat} (h8 : G.length = 8) (f : Nat) (hf : f ≤ 8) : ∀ (k i : Nat),f + i + k = 8 → crawlwayref09_run.l0 (gv G) (f : Int) (i : Int) = some ((i + runz ((zp G).drop (f + i)) : Nat) : Int):=by
  intro k
  induction k with
  | zero =>
    intro i hi
    have w : wr .i64 ((f : Int) + (i : Int)) = ((f + i : Nat) : Int):=by rw [wr_i64 (by omega) (by omega)]; omega
    rw [crawlwayref09_run.l0.eq_def,w,if_neg (by rw [decide_eq_true_eq]; omega),List.drop_eq_nil_of_le (by rw [zp_len]; omega)]; rfl
  | succ k ih =>
    intro i hi
    have w : wr .i64 ((f : Int) + (i : Int)) = ((f + i : Nat) : Int):=by rw [wr_i64 (by omega) (by omega)]; omega
    have w1 : wr .i64 ((i : Int) + 1) = ((i + 1 : Nat) : Int):=by rw [wr_i64 (by omega) (by omega)]; omega
    obtain ⟨n,hn'⟩ : ∃ n,G[f + i]? = some n:=⟨_,List.getElem?_eq_getElem (by omega)⟩
    obtain ⟨c,hc,hd⟩:=drop_get (zp G) (f + i) (by rw [zp_len]; omega)
    rw [zp_get hn'] at hc
    cases hc
    have ez : ((n : Int) == 0) = (n == 0):=by
      by_cases h : n = 0
      · subst h; rfl
      · have h2 : (n == 0) = false:=by simp [h]
        rw [h2,beq_eq_false_iff_ne]; omega
    rw [crawlwayref09_run.l0.eq_def,w,if_pos (decide_eq_true (by omega)),if_pos (by omega),gv_get h8 (f + i) n hn',ez,w1,hd]
    cases hb : (n == 0) with
    | false=>rw [if_neg Bool.false_ne_true]; rfl
    | true =>
      rw [if_pos rfl,ih (i + 1) (by omega)]
      simp only [runz]
      rw [show f + (i + 1) = f + i + 1 by omega]
      congr 2; omega
theorem run_ok {G : List Nat} (h8 : G.length = 8) (f : Nat) (hf : f ≤ 8) : crawlwayref09_run (gv G) (f : Int) = some ((runz ((zp G).drop f) : Nat) : Int):=by
  unfold crawlwayref09_run
  have:=run_loop h8 f hf (8 - f) 0 (by omega)
  rw [show ((0 : Nat) : Int) = 0 from rfl,Nat.zero_add,Nat.add_zero] at this
  rw [this,bindM_some]
theorem refText_loop {G : List Nat} (h8 : G.length = 8) : ∀ (k i p z : Nat),i + k = 8 → crawlwayref09_Text.l0 (gv G) (p : Int) (z : Int) (i : Int) = some (ii (lgR ((zp G).drop i) i p z)):=by
  intro k
  induction k with
  | zero =>
    intro i p z hi
    obtain rfl : i = 8:=by omega
    rw [crawlwayref09_Text.l0.eq_def,if_neg (by decide),List.drop_eq_nil_of_le (by rw [zp_len]; omega)]; rfl
  | succ k ih =>
    intro i p z hi
    have w1 : wr .i64 ((i : Int) + 1) = ((i + 1 : Nat) : Int):=by rw [wr_i64 (by omega) (by omega)]; omega
    obtain ⟨c,hc,hd⟩:=drop_get (zp G) i (by rw [zp_len]; omega)
    rw [crawlwayref09_Text.l0.eq_def,if_pos (decide_eq_true (by omega)),run_ok h8 i (by omega),bindM_some,bindM_some,w1,hd,lgR]
    by_cases hg : runz (c::(zp G).drop (i + 1)) > z
    · rw [if_pos (decide_eq_true (by omega)),if_pos hg]
      exact ih (i + 1) _ _ (by omega)
    · rw [if_neg (by rw [decide_eq_true_eq]; omega),if_neg hg]
      exact ih (i + 1) _ _ (by omega)
theorem rowL_snoc : ∀ (A : List Nat) (n : Nat),rowL (A ++ [n]) = if A = [] then g1 n else rowL A ++ 58::g1 n
  | [],n=>rfl
  | [a],n=>by rw [if_neg (by simp)]; rfl
  | a::b::r,n=>by
    have:=rowL_snoc (b::r) n
    rw [if_neg (by simp)] at this ⊢
    show g1 a ++ 58::rowL ((b::r) ++ [n]) = _
    rw [this,rowL]
    simp
theorem bs_grp (n : Nat) : Hex.grp n = bs (g1 n):=eq_bs _
theorem refRow_loop {G : List Nat} (h8 : G.length = 8) (hlt : ∀ n ∈ G,n < 65536) (f t : Nat) (ht : t ≤ 8) : ∀ (k i : Nat),i + k = t → f ≤ i → crawlwayref09_row.l0 (gv G) (f : Int) (t : Int) (bs (rowL ((G.take i).drop f))) (i : Int) = some (bs (rowL ((G.take t).drop f))):=by
  intro k
  induction k with
  | zero =>
    intro i hi hf
    obtain rfl : i = t:=by omega
    rw [crawlwayref09_row.l0.eq_def,if_neg (by rw [decide_eq_true_eq]; omega)]
  | succ k ih =>
    intro i hi hf
    obtain ⟨n,hn⟩ : ∃ n,G[i]? = some n:=⟨_,List.getElem?_eq_getElem (by omega)⟩
    have hn6:=hlt n (List.mem_of_getElem? hn)
    have hgl:=g1_len n hn6
    have w1 : wr .i64 ((i : Int) + 1) = ((i + 1 : Nat) : Int):=by rw [wr_i64 (by omega) (by omega)]; omega
    have h3:=ih (i + 1) (by omega) (by omega)
    rw [List.take_add_one,hn,List.drop_append_of_le_length (by rw [List.length_take]; omega)] at h3
    have h3':=h3
    rw [show (some n).toList = [n] from rfl,rowL_snoc] at h3
    have hsz:=rowL_len ((G.take i).drop f) fun x hx=>hlt x (List.mem_of_mem_take (List.mem_of_mem_drop hx))
    have hll : ((G.take i).drop f).length = i - f:=by rw [List.length_drop,List.length_take]; omega
    rw [hll] at hsz
    have h58 : (⟨#[58]⟩ : ByteArray) = bs [58]:=rfl
    rw [crawlwayref09_row.l0.eq_def,if_pos (decide_eq_true (by omega)),gv_get h8 i n hn,Hex.refGroup_eq n hn6,bs_grp,w1,h58]
    by_cases hfi : f < i
    · have hne : ¬ (G.take i).drop f = []:=fun e=>by have:=congrArg List.length e; rw [hll] at this; simp at this; omega
      rw [if_neg hne] at h3
      rw [if_pos (decide_eq_true (by omega)),if_pos (by rw [bs_size,bs_size]; simp only [List.length_cons,List.length_nil]; omega),if_pos (by omega),bindM_some,bs_app,if_pos (by rw [bs_size,bs_size,List.length_append]; simp only [List.length_cons,List.length_nil]; omega),bs_app,List.append_assoc]
      exact h3
    · have he : (G.take i).drop f = []:=List.eq_nil_of_length_eq_zero (by rw [hll]; omega)
      rw [if_pos he] at h3
      rw [if_neg (by rw [decide_eq_true_eq]; omega),if_pos (by omega),bindM_some,if_pos (by rw [bs_size,bs_size]; omega),bs_app,he]
      exact h3
theorem refRow_ok {G : List Nat} (h8 : G.length = 8) (hlt : ∀ n ∈ G,n < 65536) (f t : Nat) (hf : f ≤ t) (ht : t ≤ 8) : crawlwayref09_row (gv G) (f : Int) (t : Int) = some (bs (rowL ((G.take t).drop f))):=by
  unfold crawlwayref09_row
  have h:=refRow_loop h8 hlt f t ht (t - f) f (by omega) (Nat.le_refl _)
  have he : (G.take f).drop f = []:=List.drop_eq_nil_of_le (by rw [List.length_take]; omega)
  rw [he] at h
  show (crawlwayref09_row.l0 (gv G) (f : Int) (t : Int) (bs (rowL [])) (f : Int) >>= fun q2=>_) = _
  rw [h,bindM_some]
theorem refText_ok {m : List UInt8} (hm : m.length = 16) : crawlwayref09_Text (v16 m) = some (bs (textL (gr m))):=by
  have hg : (gr m).length = 8:=by rw [gr_len,hm]
  have hlt:=gr_lt m
  have hf:=lg_fits (z:=zp (gr m)) (by rw [zp_len,hg])
  have hl:=refText_loop hg 8 0 0 0 rfl
  rw [List.drop_zero,show ((0 : Nat) : Int) = 0 from rfl] at hl
  unfold crawlwayref09_Text
  rw [refGroups_ok hm,bindM_some,hl,bindM_some]
  unfold textL
  show (if decide (((lg (zp (gr m))).2 : Int) < 2) = true then _ else crawlwayref09_row (gv (gr m)) 0 ((lg (zp (gr m))).1 : Int) >>= fun t14=>if t14.size + (⟨#[58,58]⟩ : ByteArray).size ≤ 140737488355328 then crawlwayref09_row (gv (gr m)) (wr .i64 (((lg (zp (gr m))).1 : Int) + ((lg (zp (gr m))).2 : Int))) 8 >>= fun t16=>if (t14 ++ (⟨#[58,58]⟩ : ByteArray)).size + t16.size ≤ 140737488355328 then some ((t14 ++ (⟨#[58,58]⟩ : ByteArray)) ++ t16) else none else none) = _
  generalize lg (zp (gr m)) = q at hf
  obtain ⟨p,z⟩:=q
  simp only at hf ⊢
  by_cases h2 : z < 2
  · have hr:=refRow_ok hg hlt 0 8 (by omega) (by omega)
    rw [show ((0 : Nat) : Int) = 0 from rfl,show ((8 : Nat) : Int) = 8 from rfl,List.take_of_length_le (by omega),List.drop_zero] at hr
    rw [if_pos (decide_eq_true (by omega)),if_pos h2,hr]; rfl
  · have w : wr .i64 ((p : Int) + (z : Int)) = ((p + z : Nat) : Int):=by rw [wr_i64 (by omega) (by omega)]; omega
    have hA:=rowL_len ((gr m).take p) fun n hn=>hlt n (List.mem_of_mem_take hn)
    have hB:=rowL_len ((gr m).drop (p + z)) fun n hn=>hlt n (List.mem_of_mem_drop hn)
    rw [List.length_take] at hA
    rw [List.length_drop] at hB
    have r1:=refRow_ok hg hlt 0 p (by omega) (by omega)
    rw [show ((0 : Nat) : Int) = 0 from rfl,List.drop_zero] at r1
    have r2:=refRow_ok hg hlt (p + z) 8 (by omega) (by omega)
    rw [show ((8 : Nat) : Int) = 8 from rfl,List.take_of_length_le (by omega)] at r2
    have h58 : (⟨#[58,58]⟩ : ByteArray) = bs [58,58]:=rfl
    rw [if_neg (by rw [decide_eq_true_eq]; omega),r1,bindM_some,h58,if_pos (by rw [bs_size,bs_size]; simp only [List.length_cons,List.length_nil]; omega),w,r2,bindM_some,bs_app,if_pos (by rw [bs_size,bs_size]; simp only [List.length_append,List.length_cons,List.length_nil]; omega),bs_app,if_neg h2]
    rw [List.append_assoc]; rfl
end Go.Proofs.YtkkmmpofdcccmaaGreatDoor.Col
namespace Go.Proofs.YtkkmmpofdcccmaaGreatDoor.AdrT
open E Go.RowKit
open Adr
def z16 : List UInt8:=List.replicate 16 0
def hasC (l : List UInt8) : Bool:=l.any (· == 58)
theorem hasC_iff (l : List UInt8) : hasC l = true ↔ ∃ p r,l = p ++ 58::r ∧ ∀ x ∈ p,x ≠ 58:=by
  constructor
  · intro h
    rcases split_at 58 l with h2 | h2
    · unfold hasC at h
      obtain ⟨x,hx,h3⟩:=List.any_eq_true.1 h
      exact absurd (beq_iff_eq.1 h3) (h2 x hx)
    · exact h2
  · rintro ⟨p,r,rfl,_⟩
    unfold hasC; simp
theorem hasC_no {l : List UInt8} (h : hasC l = false) : ∀ x ∈ l,x ≠ 58:=fun x hx e=>by
  have:=List.any_eq_false.1 h x hx
  subst e; simp at this
theorem unb_ob (l : List UInt8) : unb (ob l) = l:=by
  unfold unb ob
  rw [List.map_map]
  conv=>rhs; rw [← List.map_id l]
  apply List.map_congr_left
  intro b _
  show UInt8.ofNat (Int.toNat ((b.toNat : Int))) = b
  rw [Int.toNat_natCast,UInt8.ofNat_toNat]
def quadA (l : List UInt8) : S_api_Addr × Int:=if (quadP l).2 = 0 then (mkA 4 (fourL (unb (quadP l).1.toList)),0) else (mkA 0 z16,((quadP l).2 : Int))
def adrP (l : List UInt8) : S_api_Addr × Int:=if hasC l = true then (match Col.parseL l with | some G=>(mkA 6 (Col.un G),0) | none=>(mkA 0 z16,5)) else quadA l
theorem six_eq (m : List UInt8) : addr_Six (Col.v16 m) = some (mkA 6 m):=rfl
theorem four_v4 {m : List UInt8} (hm : m.length = 4) : addr_Four (v4 m) = some (mkA 4 (fourL m)):=four_eq _ _ (v4_toList hm)
theorem quadP_m {l : List UInt8} (h : (quadP l).2 = 0) : ∃ m,m.length = 4 ∧ (quadP l).1 = v4 m ∧ unb (quadP l).1.toList = m ∧ qText m = l:=by
  obtain ⟨m,hm,hq,ht⟩:=quadP_back h
  refine ⟨m,hm,by rw [hq],?_,ht⟩
  rw [hq]
  show unb (v4 m).toList = m
  rw [v4_toList hm,unb_ob]
theorem addr_parse (l : List UInt8) (hl : l.length < 1000000) : addr_Parse (bs l) = some (adrP l):=by
  unfold addr_Parse adrP
  have h58 : ((58 : UInt8).toNat : Int) = 58:=rfl
  cases hc : hasC l with
  | true =>
    obtain ⟨p,r,he,hp⟩:=(hasC_iff l).1 hc
    have hcut : lines_Cut (bs l) 58 = some (bs p,bs r,true):=by
      rw [he,← h58]; exact cut_some p r 58 hp (by rw [he] at hl; simp at hl; omega)
    rw [hcut,bindM_some,if_pos rfl,if_pos rfl,Col.colon_parse l hl,bindM_some]
    unfold Col.parseV
    cases hq : Col.parseL l with
    | none =>
      show (if ((5 : Int) != 0) = true then _ else _) = _
      rw [if_pos (by decide),zero_mkA]; rfl
    | some G =>
      show (if ((0 : Int) != 0) = true then _ else (addr_Six (Col.v16 (Col.un G)) >>= fun t7=>some (t7,0))) = _
      rw [if_neg (by decide),six_eq,bindM_some]
  | false =>
    have hcut:=cut_none l 58 (hasC_no hc)
    rw [h58] at hcut
    rw [hcut,bindM_some,if_neg Bool.false_ne_true,if_neg Bool.false_ne_true,quad_parse l hl,bindM_some]
    unfold quadA
    by_cases h0 : (quadP l).2 = 0
    · obtain ⟨m,hm,hv,hu,_⟩:=quadP_m h0
      have hb : ((viOf (quadP l)).2 != 0) = false:=by
        show ((((quadP l).2 : Nat) : Int) != 0) = false
        rw [h0]; rfl
      rw [hb,if_neg Bool.false_ne_true,if_pos h0,hu]
      show (addr_Four (quadP l).1 >>= fun t11=>some (t11,0)) = _
      rw [hv,four_v4 hm,bindM_some]
    · have hb : ((viOf (quadP l)).2 != 0) = true:=by rw [bne_iff_ne]; show (((quadP l).2 : Nat) : Int) ≠ 0; omega
      rw [hb,if_pos rfl,if_neg h0,zero_mkA]; rfl
def ofL (b : List UInt8) : S_api_Addr × Int:=if b.length = 4 then (mkA 4 (fourL b),0) else if b.length = 16 then (mkA 6 b,0) else (mkA 0 z16,5)
def OfLoop (R : List Int → Int → S_api_Addr → Option S_api_Addr) : Prop:=∀ xs i a,R xs i a = if (decide (i < (xs.length : Int))) = true then (if (0 : Int) ≤ i ∧ i < (xs.length : Int) then if (0 : Int) ≤ i ∧ i < 16 then R xs (wr .i64 (i + 1)) ({ a with f_B:=vset a.f_B i (lget xs i) }) else none else none) else (some a)
theorem of_loop {R : List Int → Int → S_api_Addr → Option S_api_Addr} (hR : OfLoop R) (V : Int) (b : List UInt8) (hb : b.length ≤ 16) : ∀ (k i : Nat),i + k = b.length → R (ob b) (i : Int) (mkA V (b.take i ++ List.replicate (16 - i) 0)) = some (mkA V (b ++ List.replicate (16 - b.length) 0)):=by
  intro k
  induction k with
  | zero =>
    intro i hi
    rw [hR,ob_length,if_neg (by rw [decide_eq_true_eq]; omega),List.take_of_length_le (by omega),show i = b.length by omega]
  | succ k ih =>
    intro i hi
    obtain ⟨c,hc⟩ : ∃ c,b[i]? = some c:=⟨_,List.getElem?_eq_getElem (by omega)⟩
    have w : wr .i64 ((i : Int) + 1) = ((i + 1 : Nat) : Int):=by rw [wr_i64 (by omega) (by omega)]; omega
    have hA : (b.take i).length = i:=by rw [List.length_take]; omega
    have hs : (b.take i ++ List.replicate (16 - i) 0).set i c = b.take (i + 1) ++ List.replicate (16 - (i + 1)) 0:=by
      have : 16 - i = (16 - (i + 1)) + 1:=by omega
      rw [this,List.replicate_succ,List.take_add_one,hc]
      have e:=List.set_append_right (s:=b.take i) (t:=0::List.replicate (16 - (i + 1)) 0) i c (by omega)
      rw [e,hA,Nat.sub_self]
      simp
    have hg : lget (ob b) (i : Int) = (c.toNat : Int):=lget_ob b i c hc
    rw [hR,ob_length,if_pos (decide_eq_true (by omega)),if_pos (by omega),if_pos (by omega),w,hg]
    show R (ob b) _ (S_api_Addr.mk V (vset (vb (b.take i ++ List.replicate (16 - i) 0)) (i : Int) (c.toNat : Int))) = _
    rw [vset_vb (by simp; omega),hs]
    exact ih (i + 1) (by omega)
theorem ofl0 : OfLoop crawlwayref10_Of.l0:=fun xs i a=>crawlwayref10_Of.l0.eq_def xs i a
theorem ofl1 : OfLoop crawlwayref10_Of.l1:=fun xs i a=>crawlwayref10_Of.l1.eq_def xs i a
theorem ref_of (b : List UInt8) : crawlwayref10_Of (ob b) = some ((ofL b).1,decide ((ofL b).2 = 0)):=by
  unfold crawlwayref10_Of ofL
  rw [ob_length]
  have z4 : ({ ({ f_V:=(0 : Int),f_B:=(Vector.replicate 16 (0 : Int) : (Vector Int 16)) } : S_api_Addr) with f_V:=4 } : S_api_Addr) = mkA 4 (List.replicate 16 0):=by
    show S_api_Addr.mk _ _ = S_api_Addr.mk _ _
    rw [zero_vb]
  have z6 : ({ { ({ f_V:=(0 : Int),f_B:=(Vector.replicate 16 (0 : Int) : (Vector Int 16)) } : S_api_Addr) with f_V:=4 } with f_V:=6 } : S_api_Addr) = mkA 6 (List.replicate 16 0):=by
    show S_api_Addr.mk _ _ = S_api_Addr.mk _ _
    rw [zero_vb]
  rw [z6,z4,zero_mkA]
  by_cases h4 : b.length = 4
  · have e4 : ((b.length : Int) != 4) = false:=by rw [h4]; rfl
    have e16 : ((b.length : Int) == 16) = false:=by rw [h4]; rfl
    have:=of_loop ofl1 4 b (by omega) b.length 0 (by omega)
    rw [List.take_zero,List.nil_append,show ((0 : Nat) : Int) = 0 from rfl,show 16 - 0 = 16 from rfl] at this
    rw [e4,if_neg Bool.false_ne_true,e16,if_neg Bool.false_ne_true,bindM_some,this,bindM_some,if_pos h4,h4]; rfl
  · have e4 : ((b.length : Int) != 4) = true:=by rw [bne_iff_ne]; omega
    rw [e4,if_pos rfl,if_neg h4]
    by_cases h16 : b.length = 16
    · have n16 : ((b.length : Int) != 16) = false:=by rw [h16]; rfl
      have e16 : ((b.length : Int) == 16) = true:=by rw [h16]; rfl
      have:=of_loop ofl0 6 b (by omega) b.length 0 (by omega)
      rw [List.take_zero,List.nil_append,show ((0 : Nat) : Int) = 0 from rfl,show 16 - 0 = 16 from rfl] at this
      rw [n16,if_neg Bool.false_ne_true,e16,if_pos rfl,bindM_some,this,bindM_some,if_pos h16,h16]
      show some (mkA 6 (b ++ []),true) = _
      rw [List.append_nil]; rfl
    · have n16 : ((b.length : Int) != 16) = true:=by rw [bne_iff_ne]; omega
      rw [n16,if_pos rfl,if_neg h16]; rfl
theorem parts_many (l : List UInt8) : (1 < (parts 58 l).length) ↔ hasC l = true:=by
  cases hc : hasC l with
  | true =>
    obtain ⟨p,r,rfl,hp⟩:=(hasC_iff l).1 hc
    rw [parts_cons 58 r p hp]
    have:=parts_ne 58 r
    cases hq : parts 58 r with
    | nil=>exact absurd hq this
    | cons _ _=>simp
  | false=>rw [parts_none 58 l (hasC_no hc)]; simp
theorem ref_parse10 (l : List UInt8) (hl : l.length < 100000) : crawlwayref10_Parse (bs l) = some (adrP l):=by
  unfold crawlwayref10_Parse adrP
  have hp:=parts_ref 58 l (by omega)
  rw [show ((58 : UInt8).toNat : Int) = 58 from rfl] at hp
  rw [hp,bindM_some,List.length_map]
  cases hc : hasC l with
  | true =>
    have hm:=(parts_many l).2 hc
    rw [if_pos (decide_eq_true (by omega)),if_pos rfl,Col.ref_parse l hl,bindM_some]
    unfold Col.parseV
    cases hq : Col.parseL l with
    | none =>
      show (if (!false) = true then _ else _) = _
      rw [if_pos (show (!false) = true from rfl),zero_mkA]; rfl
    | some G =>
      show (if (!true) = true then _ else _) = _
      rw [if_neg (by decide)]; rfl
  | false =>
    have hm : ¬ 1 < (parts 58 l).length:=fun h=>by rw [(parts_many l).1 h] at hc; cases hc
    rw [if_neg (by rw [decide_eq_true_eq]; omega),if_neg Bool.false_ne_true,quad_parse_ref l (by omega),bindM_some]
    unfold quadA
    by_cases h0 : (quadP l).2 = 0
    · obtain ⟨m,hm,hv,hu,_⟩:=quadP_m h0
      have hb : ((viOf (quadP l)).2 != 0) = false:=by
        show ((((quadP l).2 : Nat) : Int) != 0) = false
        rw [h0]; rfl
      rw [hb,if_neg Bool.false_ne_true,if_pos h0,hu]
      show (crawlwayref10_Of [vget (quadP l).1 0,vget (quadP l).1 1,vget (quadP l).1 2,vget (quadP l).1 3] >>= fun t13=>some (t13.1,0)) = _
      rw [hv]
      match m,hm with
      | [a,b,c,d],hm =>
        have e0 : vget (v4 [a,b,c,d]) 0 = (a.toNat : Int):=vget_v4 hm 0 a rfl
        have e1 : vget (v4 [a,b,c,d]) 1 = (b.toNat : Int):=vget_v4 hm 1 b rfl
        have e2 : vget (v4 [a,b,c,d]) 2 = (c.toNat : Int):=vget_v4 hm 2 c rfl
        have e3 : vget (v4 [a,b,c,d]) 3 = (d.toNat : Int):=vget_v4 hm 3 d rfl
        rw [e0,e1,e2,e3]
        show (crawlwayref10_Of (ob [a,b,c,d]) >>= _) = _
        rw [ref_of]; rfl
    · have hb : ((viOf (quadP l)).2 != 0) = true:=by rw [bne_iff_ne]; show (((quadP l).2 : Nat) : Int) ≠ 0; omega
      rw [hb,if_pos rfl,if_neg h0,zero_mkA]; rfl
def adrT (V : Int) (l : List UInt8) : List UInt8:=if rightL V l = true then (if V = 4 then qText (l.take 4) else Col.textL (Col.gr l)) else []
theorem addr_text {V : Int} {l : List UInt8} (hl : l.length = 16) : addr_Text (mkA V l) = some (bs (adrT V l)):=by
  unfold addr_Text adrT
  rw [right_code hl,bindM_some]
  cases hr : rightL V l with
  | false=>rfl
  | true =>
    have h4l : (l.take 4).length = 4:=by rw [List.length_take]; omega
    rw [if_neg (by decide),if_pos rfl]
    by_cases h4 : V = 4
    · have e : ((mkA V l).f_V == 4) = true:=by show (V == 4) = true; rw [h4]; rfl
      rw [e,if_pos rfl,if_pos h4]
      show (if 4 ≤ (lsub (vb l).toList 0 4).length then (quad_Text (lvec 4 (lsub (vb l).toList 0 4)) >>= fun t9=>some t9) else none) = _
      have hv : lvec 4 (lsub (vb l).toList 0 4) = v4 (l.take 4):=v4_of (take4 hl)
      rw [if_pos (take4_len hl),hv,quad_text h4l]; rfl
    · have e : ((mkA V l).f_V == 4) = false:=by rw [beq_eq_false_iff_ne]; exact h4
      rw [e,if_neg Bool.false_ne_true,if_neg h4]
      show (colon_Text (Col.v16 l) >>= fun t10=>some t10) = _
      rw [Col.text_ok hl]; rfl
theorem four_vget {l : List UInt8} (hl : l.length = 16) : vset (vset (vset (vset (Vector.replicate 4 (0 : Int) : (Vector Int 4)) 0 (vget (vb l) 0)) 1 (vget (vb l) 1)) 2 (vget (vb l) 2)) 3 (vget (vb l) 3) = v4 (l.take 4):=by
  have g0:=vget_vb hl 0 (by omega)
  have g1:=vget_vb hl 1 (by omega)
  have g2:=vget_vb hl 2 (by omega)
  have g3:=vget_vb hl 3 (by omega)
  rw [show ((0 : Nat) : Int) = 0 from rfl] at g0
  rw [show ((1 : Nat) : Int) = 1 from rfl] at g1
  rw [show ((2 : Nat) : Int) = 2 from rfl] at g2
  rw [show ((3 : Nat) : Int) = 3 from rfl] at g3
  apply v4_of
  rw [g0,g1,g2,g3]
  obtain ⟨a,b,c,d,r,rfl⟩ : ∃ a b c d r,l = a::b::c::d::r:=by
    obtain ⟨a,l1,rfl⟩:=List.exists_cons_of_length_pos (show 0 < l.length by omega)
    rw [List.length_cons] at hl
    obtain ⟨b,l2,rfl⟩:=List.exists_cons_of_length_pos (show 0 < l1.length by omega)
    rw [List.length_cons] at hl
    obtain ⟨c,l3,rfl⟩:=List.exists_cons_of_length_pos (show 0 < l2.length by omega)
    rw [List.length_cons] at hl
    obtain ⟨d,l4,rfl⟩:=List.exists_cons_of_length_pos (show 0 < l3.length by omega)
    exact ⟨a,b,c,d,l4,rfl⟩
  have e0 : bg (a::b::c::d::r) 0 = a.toNat:=rfl
  have e1 : bg (a::b::c::d::r) 1 = b.toNat:=rfl
  have e2 : bg (a::b::c::d::r) 2 = c.toNat:=rfl
  have e3 : bg (a::b::c::d::r) 3 = d.toNat:=rfl
  have et : (a::b::c::d::r).take 4 = [a,b,c,d]:=rfl
  rw [e0,e1,e2,e3,et]
  simp only [vset_toList]
  rfl
theorem ref_text10 {V : Int} {l : List UInt8} (hl : l.length = 16) : crawlwayref10_Text (mkA V l) = some (bs (adrT V l)):=by
  unfold crawlwayref10_Text adrT
  rw [right_ref hl,bindM_some]
  cases hr : rightL V l with
  | false=>rfl
  | true =>
    have h4l : (l.take 4).length = 4:=by rw [List.length_take]; omega
    rw [if_neg (by decide),if_pos rfl]
    rcases right_cases hr with h6 | ⟨h4,_⟩
    · subst h6
      rw [if_pos (show ((mkA 6 l).f_V == 6) = true from rfl),if_neg (by decide)]
      show (crawlwayref09_Text (Col.v16 l) >>= fun t5=>some t5) = _
      rw [Col.refText_ok hl]; rfl
    · subst h4
      have e46 : ((mkA 4 l).f_V == 6) = false:=beq_eq_false_iff_ne.2 (by show (4 : Int) ≠ 6; decide)
      rw [e46,if_neg Bool.false_ne_true,if_pos rfl]
      show (crawlwayref08_Text (vset (vset (vset (vset (Vector.replicate 4 (0 : Int) : (Vector Int 4)) 0 (vget (vb l) 0)) 1 (vget (vb l) 1)) 2 (vget (vb l) 2)) 3 (vget (vb l) 3)) >>= fun t6=>some t6) = _
      rw [four_vget hl,refQuad_loop h4l]; rfl
theorem dec_nocolon (n : Nat) : ∀ x ∈ Lib.decDigits n,x ≠ 58:=fun x hx=>by
  have:=dig_iff.1 (List.all_eq_true.1 (decDigits_dig n) x hx)
  intro e; subst e
  have : (58 : UInt8).toNat = 58:=rfl
  omega
theorem qText_nocolon {m : List UInt8} (hm : m.length = 4) : hasC (qText m) = false:=by
  cases h : hasC (qText m) with
  | false=>rfl
  | true =>
    exfalso
    unfold hasC at h
    obtain ⟨x,hx,h3⟩:=List.any_eq_true.1 h
    have h58:=beq_iff_eq.1 h3
    match m,hm with
    | [a,b,c,d],_ =>
      have hx' : x ∈ Lib.decDigits a.toNat ++ 46::(Lib.decDigits b.toNat ++ 46::(Lib.decDigits c.toNat ++ 46::Lib.decDigits d.toNat)):=hx
      simp only [List.mem_append,List.mem_cons] at hx'
      rcases hx' with h | h | h | h | h | h | h
      · exact dec_nocolon _ x h h58
      · subst h; cases h58
      · exact dec_nocolon _ x h h58
      · subst h; cases h58
      · exact dec_nocolon _ x h h58
      · subst h; cases h58
      · exact dec_nocolon _ x h h58
theorem hasC_app (p r : List UInt8) : hasC (p ++ 58::r) = true:=by unfold hasC; simp
theorem textL_colon {G : List Nat} (h8 : G.length = 8) : hasC (Col.textL G) = true:=by
  unfold Col.textL
  split
  · match G,h8 with
    | a::b::r,_=>exact hasC_app _ _
  · exact hasC_app _ _
theorem parse_text10 {V : Int} {l : List UInt8} (hl : l.length = 16) (hr : rightL V l = true) : adrP (adrT V l) = (mkA V l,0):=by
  unfold adrT adrP
  rw [if_pos hr]
  rcases right_cases hr with h6 | ⟨h4,hlow⟩
  · subst h6
    have hg : (Col.gr l).length = 8:=by rw [Col.gr_len,hl]
    rw [if_neg (show ¬ (6 : Int) = 4 by decide),textL_colon hg,if_pos rfl,Col.parse_text _ (Col.gr_lt l) hg]
    show (mkA 6 (Col.un (Col.gr l)),(0 : Int)) = _
    rw [Col.un_gr l (by omega)]
  · subst h4
    have h4l : (l.take 4).length = 4:=by rw [List.length_take]; omega
    rw [if_pos rfl,qText_nocolon h4l,if_neg Bool.false_ne_true]
    unfold quadA
    rw [quadP_text h4l]
    show (if (0 : Nat) = 0 then (mkA 4 (fourL (unb (v4 (l.take 4)).toList)),(0 : Int)) else _) = _
    rw [if_pos rfl,v4_toList h4l,unb_ob,← (low_iff hl).1 hlow]
theorem adrT_len {V : Int} {l : List UInt8} (hl : l.length = 16) : (adrT V l).length ≤ 42:=by
  unfold adrT
  split
  · split
    · have:=qText_len (m:=l.take 4) (by rw [List.length_take]; omega); omega
    · exact Col.textL_len _ (Col.gr_lt l) (by rw [Col.gr_len,hl])
  · simp
end Go.Proofs.YtkkmmpofdcccmaaGreatDoor.AdrT
namespace Go.Proofs.YtkkmmpofdcccmaaGreatDoor.Host
open E Go.RowKit
open Adr AdrT
def isB : List UInt8 → Bool
  | x::y::_=>x == 93 && y == 58
  | _=>false
theorem isB_iff (r : List UInt8) : isB r = true ↔ ∃ r2,r = 93::58::r2:=by
  match r with
  | []=>simp [isB]
  | [x]=>simp [isB]
  | x::y::r=>simp [isB]
def cutL : List UInt8 → Option (List UInt8 × List UInt8)
  | []=>none
  | c::r=>if isB (c::r) = true then some ([],r.drop 1) else (cutL r).map fun q=>(c::q.1,q.2)
theorem cutL_eq : ∀ {l a b : List UInt8},cutL l = some (a,b) → l = a ++ 93::58::b
  | [],_,_,h=>by cases h
  | c::r,a,b,h=>by
    unfold cutL at h
    split at h
    · next hc =>
      obtain ⟨r2,hr⟩:=(isB_iff _).1 hc
      cases h
      rw [hr]
      obtain ⟨_,rfl⟩:=List.cons.inj hr
      rfl
    · obtain ⟨q,hq,h⟩:=Option.map_eq_some_iff.1 h
      obtain ⟨a',b'⟩:=q
      cases h
      rw [cutL_eq hq]; rfl
theorem pre_isB (l : List UInt8) : List.isPrefixOf [93,58] l = isB l:=by
  match l with
  | []=>rfl
  | [x]=>simp [List.isPrefixOf,isB]
  | x::y::r=>simp only [List.isPrefixOf,isB,Bool.and_true]; rw [BEq.comm (a:=(93 : UInt8)),BEq.comm (a:=(58 : UInt8))]
theorem index_cut : ∀ (l : List UInt8),Lib.index l [93,58] = match cutL l with | some (a,_)=>(a.length : Int) | none=>-1
  | []=>rfl
  | c::r=>by
    unfold Lib.index cutL
    rw [pre_isB]
    by_cases h : isB (c::r) = true
    · rw [if_pos h,if_pos h]; rfl
    · rw [if_neg h,if_neg h,index_cut r]
      cases cutL r with
      | none=>rfl
      | some q =>
        obtain ⟨a,b⟩:=q
        have : (((a.length : Nat) : Int) == -1) = false:=by rw [beq_eq_false_iff_ne]; omega
        simp only [Option.map_some,List.length_cons]
        rw [this,if_neg Bool.false_ne_true]
        exact (Int.natCast_succ _).symm
theorem lib_cut (l : List UInt8) : Lib.cut l [93,58] = match cutL l with | some (a,b)=>(a,b,true) | none=>(l,[],false):=by
  unfold Lib.cut
  rw [index_cut]
  cases h : cutL l with
  | none=>rfl
  | some q =>
    obtain ⟨a,b⟩:=q
    have hl:=cutL_eq h
    simp only
    rw [if_pos (by omega),Int.toNat_natCast]
    have e1 : l.take a.length = a:=by rw [hl]; exact List.take_left' rfl
    have e2 : l.drop (a.length + ([93,58] : List UInt8).length) = b:=by
      rw [hl,List.drop_append,List.drop_eq_nil_of_le (by omega)]
      simp only [List.length_cons,List.length_nil,List.nil_append]
      rw [show a.length + (0 + 1 + 1) - a.length = 2 by omega]; rfl
    rw [e1,e2]
theorem scut_eq (l : List UInt8) : scut (bs l) (⟨#[93,58]⟩ : ByteArray) = match cutL l with | some (a,b)=>(bs a,bs b,true) | none=>(bs l,bs [],false):=by
  have h:=lib_cut l
  unfold scut
  rw [bs_list]
  show ((⟨(Lib.cut l [93,58]).1.toArray⟩ : ByteArray),(⟨(Lib.cut l [93,58]).2.1.toArray⟩ : ByteArray),(Lib.cut l [93,58]).2.2) = _
  rw [h]
  cases cutL l with
  | none=>rfl
  | some q=>rfl
theorem index_colon (l : List UInt8) : decide (0 ≤ Lib.indexByte l 58) = hasC l:=by
  cases hc : hasC l with
  | true =>
    obtain ⟨p,r,rfl,hp⟩:=(hasC_iff l).1 hc
    rw [index_at p r 58 hp]
    exact decide_eq_true (by omega)
  | false =>
    have:=cut_none l 58 (hasC_no hc)
    have h1:=Lib.indexByte_ge l 58
    refine decide_eq_false fun h=>?_
    obtain ⟨o,ho⟩:=Int.eq_ofNat_of_zero_le h
    have:=(Lib.indexByte_some ho).1
    exact hasC_no hc 58 (List.mem_of_getElem? this) rfl
def f58 : List UInt8 → Option (List UInt8 × List UInt8)
  | []=>none
  | c::r=>if c = 58 then some ([],r) else (f58 r).map fun q=>(c::q.1,q.2)
theorem f58_at (r : List UInt8) : ∀ (p : List UInt8),(∀ x ∈ p,x ≠ 58) → f58 (p ++ 58::r) = some (p,r)
  | [],_=>by
    show (if (58 : UInt8) = 58 then some ([],r) else _) = _
    rw [if_pos rfl]
  | c::p,h=>by
    show (if c = 58 then _ else (f58 (p ++ 58::r)).map _) = _
    rw [if_neg (h c (List.mem_cons_self ..)),f58_at r p fun x hx=>h x (List.mem_cons_of_mem _ hx)]; rfl
theorem f58_none : ∀ (l : List UInt8),(∀ x ∈ l,x ≠ 58) → f58 l = none
  | [],_=>rfl
  | c::r,h=>by
    unfold f58
    rw [if_neg (h c (List.mem_cons_self ..)),f58_none r fun x hx=>h x (List.mem_cons_of_mem _ hx)]; rfl
def six (l : List UInt8) : Bool:=l.head? == some 91
def halL (l : List UInt8) : Option (List UInt8 × List UInt8):=if six l = true then (cutL (l.drop 1)).bind fun q=>if hasC q.1 = true then some q else none else f58 l
theorem cutPrefix (l : List UInt8) : strings_CutPrefix (bs l) (⟨#[91]⟩ : ByteArray) = some (if six l = true then (bs (l.drop 1),true) else (bs l,false)):=by
  have hp : stringslite_HasPrefix (bs l) (⟨#[91]⟩ : ByteArray) = some (six l):=by
    unfold stringslite_HasPrefix
    cases l with
    | nil=>rw [if_neg (by decide)]; rfl
    | cons x r =>
      have hsz : (bs (x::r)).size = r.length + 1:=bs_size _
      have h1 : ((⟨#[91]⟩ : ByteArray).size : Int) = 1:=rfl
      rw [h1,hsz,if_pos (decide_eq_true (by omega)),if_pos (by omega)]
      refine congrArg some ?_
      show seq ((bs (x::r)).extract 0 1) (bs [91]) = _
      rw [bs_extract]
      by_cases hx : x = 91
      · subst hx
        exact seq_self _
      · have hf : six (x::r) = false:=by simp [six,hx]
        rw [hf]
        cases hc : seq (bs ((List.take 1 (x::r)).drop 0)) (bs [91]) with
        | false=>rfl
        | true =>
          have:=bs_inj ((seq_iff _ _).1 hc)
          simp at this
          exact absurd this hx
  unfold strings_CutPrefix stringslite_CutPrefix
  rw [hp,bindM_some]
  cases h : six l with
  | false=>rfl
  | true =>
    have hne : 1 ≤ l.length:=by
      cases l with
      | nil=>cases h
      | cons x r=>simp
    have h1 : ((⟨#[91]⟩ : ByteArray).size : Int) = 1:=rfl
    have hx : (bs l).extract (Int.toNat 1) (Int.toNat ((bs l).size : Int)) = bs (l.drop 1):=by
      rw [Int.toNat_natCast,bs_extract,bs_size,List.take_of_length_le (Nat.le_refl _)]; rfl
    rw [if_neg (by decide),h1,if_pos (by rw [bs_size]; omega),hx]; rfl
theorem halves_ok (l : List UInt8) (hl : l.length < 1000000) : ∃ a b,hostport_halves (bs l) = some (a,b,(halL l).isSome) ∧ ∀ h p,halL l = some (h,p) → a = bs h ∧ b = bs p:=by
  unfold hostport_halves halL
  rw [cutPrefix,bindM_some]
  cases h6 : six l with
  | true =>
    have hd : (l.drop 1).length < 1000000:=by rw [List.length_drop]; omega
    rw [if_pos rfl]
    show ∃ a b,(if true = true then (if (bs (l.drop 1)).size < 4294967281 then if (scut (bs (l.drop 1)) (⟨#[93,58]⟩ : ByteArray)).2.2 = true then some ((scut (bs (l.drop 1)) (⟨#[93,58]⟩ : ByteArray)).1,(scut (bs (l.drop 1)) (⟨#[93,58]⟩ : ByteArray)).2.1,decide (0 ≤ Lib.indexByte (scut (bs (l.drop 1)) (⟨#[93,58]⟩ : ByteArray)).1.data.toList 58)) else some ((scut (bs (l.drop 1)) (⟨#[93,58]⟩ : ByteArray)).1,(scut (bs (l.drop 1)) (⟨#[93,58]⟩ : ByteArray)).2.1,false) else none) else _) = _ ∧ _
    rw [if_pos rfl,if_pos (by rw [bs_size]; omega),scut_eq]
    cases hc : cutL (l.drop 1) with
    | none =>
      exact ⟨_,_,rfl,fun h p e=>by cases e⟩
    | some q =>
      obtain ⟨a,b⟩:=q
      simp only [if_true,bs_list,index_colon,Option.bind_some]
      cases hasC a with
      | true=>exact ⟨_,_,rfl,fun h p e=>by cases e; exact ⟨rfl,rfl⟩⟩
      | false=>exact ⟨_,_,rfl,fun h p e=>by cases e⟩
  | false =>
    have hb : bt (⟨#[58]⟩ : ByteArray) 0 = 58:=rfl
    rw [if_neg Bool.false_ne_true]
    show ∃ a b,(if false = true then _ else (if (0 : Int) ≤ 0 ∧ (0 : Int) < ((⟨#[58]⟩ : ByteArray).size : Int) then lines_Cut (bs l) (bt (⟨#[58]⟩ : ByteArray) 0) >>= fun t6=>some (t6.1,t6.2.1,t6.2.2) else none)) = _ ∧ _
    rw [if_neg Bool.false_ne_true,if_pos (by decide),hb]
    have h58 : ((58 : UInt8).toNat : Int) = 58:=rfl
    rcases split_at 58 l with h2 | ⟨p,r,rfl,h2⟩
    · have hcut:=cut_none l 58 h2
      rw [h58] at hcut
      rw [hcut,bindM_some,if_neg Bool.false_ne_true,f58_none l h2]
      exact ⟨_,_,rfl,fun h p e=>by cases e⟩
    · have hcut:=cut_some p r 58 h2 (by simp at hl; omega)
      rw [h58] at hcut
      rw [hcut,bindM_some,if_neg Bool.false_ne_true,f58_at r p h2]
      exact ⟨_,_,rfl,fun h q e=>by cases e; exact ⟨rfl,rfl⟩⟩
def mkE (A : S_api_Addr) (n : Int) : S_api_Endpoint:={ f_A:=A,f_Port:=n }
def zE : S_api_Endpoint:={ f_A:=({ f_V:=(0 : Int),f_B:=(Vector.replicate 16 (0 : Int) : (Vector Int 16)) } : S_api_Addr),f_Port:=(0 : Int) }
def endQ (h p : List UInt8) : S_api_Endpoint × Int:=if (adrP h).2 = 0 then (if (rdU p 65535).2 = 0 then (if (rdU p 65535).1 = 0 then (zE,6) else (mkE (adrP h).1 ((rdU p 65535).1 : Int),0)) else (zE,((rdU p 65535).2 : Int))) else (zE,(adrP h).2)
def endP (l : List UInt8) : S_api_Endpoint × Int:=match halL l with
  | some (h,p)=>endQ h p
  | none=>(zE,5)
theorem tail_ok {P : Option (S_api_Addr × Int)} {R : Option (Int × Int)} (h p : List UInt8) (hP : P = some (adrP h)) (hR : R = some (iiOf (rdU p 65535))) :
    (P >>= fun t4=>if (t4.2 != 0) = true then (some (zE,t4.2)) else (R >>= fun t7=>if (t7.2 != 0) = true then (some (zE,t7.2)) else (if (t7.1 == 0) = true then (some (zE,6)) else (some ({ { zE with f_A:=t4.1 } with f_Port:=wr .i64 t7.1 },0))))) = some (endQ h p):=by
  subst hP hR
  rw [bindM_some]
  unfold endQ
  have hle:=rdU_le p 65535
  by_cases h1 : (adrP h).2 = 0
  · have e : ((adrP h).2 != 0) = false:=by rw [h1]; rfl
    rw [e,if_neg Bool.false_ne_true,if_pos h1,bindM_some]
    show (if ((((rdU p 65535).2 : Nat) : Int) != 0) = true then _ else (if ((((rdU p 65535).1 : Nat) : Int) == 0) = true then _ else some (S_api_Endpoint.mk (adrP h).1 (wr .i64 (((rdU p 65535).1 : Nat) : Int)),(0 : Int)))) = _
    by_cases h2 : (rdU p 65535).2 = 0
    · have e2 : ((((rdU p 65535).2 : Nat) : Int) != 0) = false:=by rw [h2]; rfl
      rw [e2,if_neg Bool.false_ne_true,if_pos h2]
      by_cases h3 : (rdU p 65535).1 = 0
      · rw [h3,if_pos (by rfl),if_pos rfl]
      · have e3 : ((((rdU p 65535).1 : Nat) : Int) == 0) = false:=by rw [beq_eq_false_iff_ne]; omega
        rw [e3,if_neg Bool.false_ne_true,if_neg h3,wr_i64 (by omega) (by omega)]; rfl
    · have e2 : ((((rdU p 65535).2 : Nat) : Int) != 0) = true:=by rw [bne_iff_ne]; omega
      rw [e2,if_pos rfl,if_neg h2]; rfl
  · have e : ((adrP h).2 != 0) = true:=by rw [bne_iff_ne]; exact h1
    rw [e,if_pos rfl,if_neg h1]
theorem halL_len {l h p : List UInt8} (e : halL l = some (h,p)) : h.length ≤ l.length ∧ p.length ≤ l.length:=by
  unfold halL at e
  split at e
  · obtain ⟨q,hq,e⟩:=Option.bind_eq_some_iff.1 e
    split at e
    · cases e
      have:=congrArg List.length (cutL_eq hq)
      rw [List.length_drop,List.length_append,List.length_cons,List.length_cons] at this
      omega
    · cases e
  · rcases split_at 58 l with h2 | ⟨a,r,rfl,h2⟩
    · rw [f58_none l h2] at e; cases e
    · rw [f58_at r a h2] at e
      cases e
      rw [List.length_append,List.length_cons]
      omega
theorem host_parse (l : List UInt8) (hl : l.length < 100000) : hostport_Parse (bs l) = some (endP l):=by
  unfold hostport_Parse endP
  obtain ⟨a,b,hh,hab⟩:=halves_ok l (by omega)
  rw [hh,bindM_some]
  cases hq : halL l with
  | none =>
    show (if (!false) = true then _ else _) = _
    rw [if_pos (show (!false) = true from rfl)]; rfl
  | some q =>
    obtain ⟨h,p⟩:=q
    obtain ⟨rfl,rfl⟩:=hab h p hq
    have hlen:=halL_len hq
    show (if (!true) = true then _ else _) = _
    rw [if_neg (by decide)]
    exact tail_ok h p (addr_parse h (by omega)) (by
      have:=read_code (bs p) 65535 (by rw [bs_size]; omega) (by omega)
      rw [bs_list] at this
      exact this)
theorem u8_93 (x : UInt8) : ((x.toNat : Int) == 93) = (x == 93):=by
  by_cases h : x = 93
  · subst h; rfl
  · have h2 : x.toNat ≠ 93:=fun e=>h (UInt8.toNat_inj.1 e)
    have h3 : (x == 93) = false:=by simp [h]
    rw [h3,beq_eq_false_iff_ne]; omega
theorem cut_loop (l : List UInt8) (hl : l.length < 1000000) : ∀ (k i : Nat),l.length - i = k → i ≤ l.length →
    crawlwayref12_cut.l0 (bs l) (i : Int) = some (match cutL (l.drop i) with | some (a,b)=>.ret (bs (l.take i ++ a),bs b,true) | none=>.nx ()):=by
  intro k
  induction k with
  | zero =>
    intro i hk hi
    have w : wr .i64 ((i : Int) + 1) = ((i + 1 : Nat) : Int):=by rw [wr_i64 (by omega) (by omega)]; omega
    rw [crawlwayref12_cut.l0.eq_def,w,bs_size,if_neg (by rw [decide_eq_true_eq]; omega),List.drop_eq_nil_of_le (by omega)]; rfl
  | succ k ih =>
    intro i hk hi
    have w : wr .i64 ((i : Int) + 1) = ((i + 1 : Nat) : Int):=by rw [wr_i64 (by omega) (by omega)]; omega
    have w2 : wr .i64 ((i : Int) + 2) = ((i + 2 : Nat) : Int):=by rw [wr_i64 (by omega) (by omega)]; omega
    obtain ⟨c,hc,hd⟩:=drop_get l i (by omega)
    have hbc : bt (bs l) (i : Int) = (c.toNat : Int):=bt_at (by rw [bs_list]; exact hc)
    have hi1:=ih (i + 1) (by omega) (by omega)
    have htk : l.take (i + 1) = l.take i ++ [c]:=by rw [List.take_add_one,hc]; rfl
    rw [crawlwayref12_cut.l0.eq_def,w,bs_size]
    by_cases h1 : i + 1 < l.length
    · obtain ⟨d,hdd,hd2⟩:=drop_get l (i + 1) h1
      have hbd : bt (bs l) ((i + 1 : Nat) : Int) = (d.toNat : Int):=bt_at (by rw [bs_list]; exact hdd)
      have hnot : ∀ (hB : isB (c::d::l.drop (i + 1 + 1)) = false),crawlwayref12_cut.l0 (bs l) ((i + 1 : Nat) : Int) = some (match cutL (c::d::l.drop (i + 1 + 1)) with | some (a,b)=>.ret (bs (l.take i ++ a),bs b,true) | none=>.nx ()):=by
        intro hB
        have e : cutL (c::d::l.drop (i + 1 + 1)) = (cutL (d::l.drop (i + 1 + 1))).map fun q=>(c::q.1,q.2):=by
          conv=>lhs; unfold cutL
          rw [hB,if_neg Bool.false_ne_true]
        rw [hi1,e,hd2]
        cases cutL (d::l.drop (i + 1 + 1)) with
        | none=>rfl
        | some q=>obtain ⟨a,b⟩:=q; simp [htk]
      rw [if_pos (decide_eq_true (by omega)),if_pos (by omega),hbc,u8_93,hbd,Col.u8_58,w2,hd,hd2]
      by_cases hc93 : c = 93
      · subst hc93
        rw [if_pos (by rfl),if_pos (by omega)]
        by_cases hd58 : d = 58
        · subst hd58
          have x1 : (bs l).extract (Int.toNat 0) (Int.toNat (i : Int)) = bs (l.take i):=by rw [Int.toNat_natCast,bs_extract]; rfl
          have x2 : (bs l).extract (Int.toNat ((i + 2 : Nat) : Int)) (Int.toNat ((l.length : Nat) : Int)) = bs (l.drop (i + 2)):=by
            rw [Int.toNat_natCast,Int.toNat_natCast,bs_extract,List.take_of_length_le (Nat.le_refl _)]
          rw [if_pos (by rfl),if_pos (by omega),if_pos (by omega),x1,x2]
          have e : cutL (93::58::l.drop (i + 1 + 1)) = some ([],l.drop (i + 1 + 1)):=rfl
          rw [e]
          simp
        · have hf : (d == 58) = false:=by simp [hd58]
          rw [hf,if_neg Bool.false_ne_true]
          exact hnot (by simp [isB,hd58])
      · have hf : (c == 93) = false:=by simp [hc93]
        rw [hf,if_neg Bool.false_ne_true]
        exact hnot (by simp [isB,hc93])
    · rw [if_neg (by rw [decide_eq_true_eq]; omega),hd,List.drop_eq_nil_of_le (show l.length ≤ i + 1 by omega)]
      rfl
theorem refcut_ok (l : List UInt8) (hl : l.length < 1000000) : crawlwayref12_cut (bs l) = some (match cutL l with | some (a,b)=>(bs a,bs b,true) | none=>(bs [],bs [],false)):=by
  unfold crawlwayref12_cut
  have h:=cut_loop l hl l.length 0 (by omega) (by omega)
  rw [show ((0 : Nat) : Int) = 0 from rfl,List.drop_zero] at h
  rw [h,bindM_some]
  cases cutL l with
  | none=>rfl
  | some q=>obtain ⟨a,b⟩:=q; simp
theorem parts58 (h : List UInt8) (hl : h.length < 1000000) : crawlwayref06_Parts (bs h) 58 = some ((parts 58 h).map bs):=by
  have:=parts_ref 58 h hl
  rwa [show ((58 : UInt8).toNat : Int) = 58 from rfl] at this
theorem many58 (h : List UInt8) : decide ((((parts 58 h).map bs).length : Int) > 1) = hasC h:=by
  rw [List.length_map]
  cases hc : hasC h with
  | true=>exact decide_eq_true (by have:=(parts_many h).2 hc; omega)
  | false=>exact decide_eq_false fun h2=>by have:=(parts_many h).1 (by omega); rw [this] at hc; cases hc
theorem first_part (p r : List UInt8) (h : ∀ x ∈ p,x ≠ 58) : lget ((parts 58 (p ++ 58::r)).map bs) 0 = bs p:=by
  rw [parts_cons 58 r p h]; rfl
theorem ref_read (p : List UInt8) (hp : p.length < 1000000) : crawlwayref03_Read (bs p) 65535 = some (iiOf (rdU p 65535)):=by
  have:=read_ref (bs p) 65535 (by rw [bs_size]; omega) (by omega)
  rw [bs_list] at this
  exact this
theorem plain_ok (l : List UInt8) (hl : l.length < 100000) (h6 : six l = false) (b : Bool) (hb : b = false) :
    (crawlwayref06_Parts (bs l) 58 >>= fun t18=>if (0 : Int) ≤ 0 ∧ 0 < (t18.length : Int) then if (decide ((t18.length : Int) > 1)) = true then (if (0 : Int) ≤ 0 ∧ 0 < (t18.length : Int) then if (0 : Int) ≤ wr .i64 (((lget t18 0).size : Int) + 1) ∧ wr .i64 (((lget t18 0).size : Int) + 1) ≤ ((bs l).size : Int) ∧ ((bs l).size : Int) ≤ ((bs l).size : Int) then if (!(decide ((t18.length : Int) > 1))) = true then (some (zE,5)) else (crawlwayref06_Parts (lget t18 0) 58 >>= fun t32=>if (decide ((t32.length : Int) > 1) != b) = true then (some (zE,5)) else (crawlwayref10_Parse (lget t18 0) >>= fun t36=>if (t36.2 != 0) = true then (some (zE,t36.2)) else (crawlwayref03_Read ((bs l).extract (Int.toNat (wr .i64 (((lget t18 0).size : Int) + 1))) (Int.toNat ((bs l).size : Int))) 65535 >>= fun t39=>if (t39.2 != 0) = true then (some (zE,t39.2)) else (if (t39.1 == 0) = true then (some (zE,6)) else (some ({ { zE with f_A:=t36.1 } with f_Port:=wr .i64 t39.1 },0)))))) else none else none) else (if (!(decide ((t18.length : Int) > 1))) = true then (some (zE,5)) else (crawlwayref06_Parts (lget t18 0) 58 >>= fun t43=>if (decide ((t43.length : Int) > 1) != b) = true then (some (zE,5)) else (crawlwayref10_Parse (lget t18 0) >>= fun t47=>if (t47.2 != 0) = true then (some (zE,t47.2)) else (crawlwayref03_Read (⟨#[]⟩ : ByteArray) 65535 >>= fun t50=>if (t50.2 != 0) = true then (some (zE,t50.2)) else (if (t50.1 == 0) = true then (some (zE,6)) else (some ({ { zE with f_A:=t47.1 } with f_Port:=wr .i64 t50.1 },0))))))) else none) = some (endP l):=by
  subst hb
  have hne:=parts_ne 58 l
  have h0 : (0 : Int) ≤ 0 ∧ (0 : Int) < (((parts 58 l).map bs).length : Int):=by
    rw [List.length_map]
    cases hq : parts 58 l with
    | nil=>exact absurd hq hne
    | cons _ _=>simp
  unfold endP halL
  rw [h6,if_neg Bool.false_ne_true,parts58 l (by omega),bindM_some,if_pos h0,many58]
  rcases split_at 58 l with h2 | ⟨p,r,rfl,h2⟩
  · have hc : hasC l = false:=by
      cases h : hasC l with
      | false=>rfl
      | true =>
        obtain ⟨p,r,rfl,_⟩:=(hasC_iff l).1 h
        exact absurd rfl (h2 58 (by simp))
    rw [hc,if_neg Bool.false_ne_true,if_pos (show (!false) = true from rfl),f58_none l h2]
  · have hc : hasC (p ++ 58::r) = true:=hasC_app p r
    have hpc : hasC p = false:=by
      cases h : hasC p with
      | false=>rfl
      | true =>
        obtain ⟨p',r',rfl,_⟩:=(hasC_iff p).1 h
        exact absurd rfl (h2 58 (by simp))
    have hlen : (p ++ 58::r).length = p.length + (r.length + 1):=by simp
    have w : wr .i64 (((bs p).size : Int) + 1) = ((p.length + 1 : Nat) : Int):=by rw [bs_size,wr_i64 (by omega) (by omega)]; omega
    have x : (bs (p ++ 58::r)).extract (Int.toNat ((p.length + 1 : Nat) : Int)) (Int.toNat ((bs (p ++ 58::r)).size : Int)) = bs r:=by
      rw [Int.toNat_natCast,Int.toNat_natCast,bs_extract,bs_size,List.take_of_length_le (Nat.le_refl _),List.drop_append,List.drop_eq_nil_of_le (by omega),show p.length + 1 - p.length = 1 by omega]; rfl
    rw [hc,if_pos rfl,if_pos h0,first_part p r h2,w,if_pos (by rw [bs_size]; omega),if_neg (show ¬ (!true) = true by decide),parts58 p (by omega),bindM_some,many58,hpc,if_neg (by decide),x,f58_at r p h2]
    exact tail_ok p r (ref_parse10 p (by omega)) (ref_read r (by omega))
theorem ref_parse12 (l : List UInt8) (hl : l.length < 100000) : crawlwayref12_Parse (bs l) = some (endP l):=by
  unfold crawlwayref12_Parse
  cases l with
  | nil =>
    rw [if_neg (by decide)]
    exact plain_ok [] hl rfl false rfl
  | cons x r =>
    have hb : bt (bs (x::r)) 0 = (x.toNat : Int):=bt_at (i:=0) (by rw [bs_list]; rfl)
    have hs : (0 : Int) ≤ 0 ∧ (0 : Int) < ((bs (x::r)).size : Int):=by rw [bs_size,List.length_cons]; omega
    rw [if_pos (decide_eq_true hs.2),if_pos hs,hb]
    by_cases hx : x = 91
    · subst hx
      have e91 : (((91 : UInt8).toNat : Int) == 91) = true:=rfl
      have hx1 : (bs (91::r)).extract (Int.toNat 1) (Int.toNat ((bs (91::r)).size : Int)) = bs r:=by
        rw [Int.toNat_natCast,bs_extract,bs_size,List.take_of_length_le (Nat.le_refl _)]; rfl
      have h6 : six (91::r) = true:=rfl
      simp only [List.length_cons] at hl
      rw [e91,if_pos rfl,if_pos (by rw [bs_size,List.length_cons]; omega),hx1,refcut_ok r (by omega),bindM_some]
      unfold endP halL
      rw [h6,if_pos rfl]
      show _ = some (match (cutL r).bind fun q=>if hasC q.1 = true then some q else none with | some (h,p)=>endQ h p | none=>(zE,5))
      cases hc : cutL r with
      | none=>rw [if_pos (show (!false) = true from rfl)]; rfl
      | some q =>
        obtain ⟨a,b⟩:=q
        have hlen:=congrArg List.length (cutL_eq hc)
        rw [List.length_append,List.length_cons,List.length_cons] at hlen
        simp only [Option.bind_some]
        rw [if_neg (show ¬ (!true) = true by decide),parts58 a (by omega),bindM_some,many58]
        cases ha : hasC a with
        | false =>
          rw [if_pos (by decide)]
          simp only [Bool.false_eq_true,if_false]; rfl
        | true =>
          rw [if_neg (by decide)]
          simp only [if_true]
          exact tail_ok a b (ref_parse10 a (by omega)) (ref_read b (by omega))
    · have e91 : ((x.toNat : Int) == 91) = false:=by
        rw [beq_eq_false_iff_ne]
        intro e
        exact hx (UInt8.toNat_inj.1 (by show x.toNat = 91; omega))
      have h6 : six (x::r) = false:=by simp [six,hx]
      rw [e91,if_neg Bool.false_ne_true]
      exact plain_ok (x::r) hl h6 false rfl
end Go.Proofs.YtkkmmpofdcccmaaGreatDoor.Host
namespace Go.Proofs.YtkkmmpofdcccmaaGreatDoor.Host
open E Go.RowKit
open Adr AdrT
theorem exists_mkE (a : S_api_Endpoint) (h : ok_api_Endpoint a) : ∃ V l n,a = mkE (mkA V l) n ∧ l.length = 16 ∧ (Lit.int .i64 n).wf = true:=by
  obtain ⟨V,l,hA,hl,_⟩:=exists_mkA a.f_A h.1
  refine ⟨V,l,a.f_Port,?_,hl,h.2⟩
  cases a with | mk A n =>
  simp only at hA
  subst hA; rfl
def rightE (V : Int) (l : List UInt8) (n : Int) : Bool:=rightL V l && (decide (1 ≤ n) && decide (n ≤ 65535))
theorem right_code12 {V n : Int} {l : List UInt8} (hl : l.length = 16) : hostport_Right (mkE (mkA V l) n) = some (rightE V l n):=by
  unfold hostport_Right rightE
  show (addr_Right (mkA V l) >>= fun t2=>if t2 = true then (if decide (n ≥ 1) = true then some (decide (n ≤ 65535)) else some false) else some false) = _
  rw [right_code hl,bindM_some]
  cases rightL V l with
  | false=>rfl
  | true =>
    rw [if_pos rfl]
    by_cases h : 1 ≤ n
    · rw [if_pos (decide_eq_true h),decide_eq_true h]; rfl
    · rw [if_neg (by rw [decide_eq_true_eq]; exact h),decide_eq_false h]; rfl
theorem right_ref12 {V n : Int} {l : List UInt8} (hl : l.length = 16) : crawlwayref12_Right (mkE (mkA V l) n) = some (rightE V l n):=by
  unfold crawlwayref12_Right rightE
  show (crawlwayref10_Right (mkA V l) >>= fun t2=>if t2 = true then (if decide (n ≥ 1) = true then some (decide (n ≤ 65535)) else some false) else some false) = _
  rw [right_ref hl,bindM_some]
  cases rightL V l with
  | false=>rfl
  | true =>
    rw [if_pos rfl]
    by_cases h : 1 ≤ n
    · rw [if_pos (decide_eq_true h),decide_eq_true h]; rfl
    · rw [if_neg (by rw [decide_eq_true_eq]; exact h),decide_eq_false h]; rfl
theorem rightE_iff {V n : Int} {l : List UInt8} (h : rightE V l n = true) : rightL V l = true ∧ ∃ k : Nat,n = (k : Int) ∧ 1 ≤ k ∧ k ≤ 65535:=by
  unfold rightE at h
  simp only [Bool.and_eq_true,decide_eq_true_eq] at h
  exact ⟨h.1,n.toNat,by omega,by omega,by omega⟩
def hostL (V : Int) (l : List UInt8) (k : Nat) : List UInt8:=if V = 4 then adrT V l ++ 58::Lib.decDigits k else 91::(adrT V l ++ 93::58::Lib.decDigits k)
theorem dig5 (k : Nat) (h : k ≤ 65535) : (Lib.decDigits k).length ≤ 20:=decDigits_len k (by omega)
theorem bs_app (l k : List UInt8) : bs l ++ bs k = bs (l ++ k):=by apply mk_inj; rw [append_list,bs_list,bs_list,bs_list]
theorem fmtU_bs (k : Nat) : fmtU (k : Int) = bs (Lib.decDigits k):=by apply mk_inj; rw [fmtU_list,bs_list]
theorem hostL_len {V : Int} {l : List UInt8} (hl : l.length = 16) (k : Nat) (hk : k ≤ 65535) : (hostL V l k).length ≤ 70:=by
  have h1:=adrT_len (V:=V) hl
  have h2:=dig5 k hk
  unfold hostL
  split <;> simp only [List.length_append,List.length_cons] <;> omega
theorem text_code12 {V n : Int} {l : List UInt8} (hl : l.length = 16) : hostport_Text (mkE (mkA V l) n) = some (bs (if rightE V l n = true then hostL V l n.toNat else [])):=by
  unfold hostport_Text
  rw [right_code12 hl,bindM_some]
  cases hr : rightE V l n with
  | false=>rw [if_pos (show (!false) = true from rfl)]; rfl
  | true =>
    obtain ⟨hrl,k,rfl,h1,h2⟩:=rightE_iff hr
    have ht:=adrT_len (V:=V) hl
    have hd:=dig5 k h2
    have b91 : (⟨#[91]⟩ : ByteArray) = bs [91]:=rfl
    have b9358 : (⟨#[93,58]⟩ : ByteArray) = bs [93,58]:=rfl
    have b58 : (⟨#[58]⟩ : ByteArray) = bs [58]:=rfl
    rw [if_neg (show ¬ (!true) = true by decide),if_pos rfl,Int.toNat_natCast]
    show (decimal_Text (wr .u64 (k : Int)) >>= fun t4=>addr_Width (mkA V l) >>= fun t5=>if (decide (t5 > 32)) = true then (addr_Text (mkA V l) >>= fun t7=>if (⟨#[91]⟩ : ByteArray).size + t7.size ≤ 140737488355328 then if ((⟨#[91]⟩ : ByteArray) ++ t7).size + (⟨#[93,58]⟩ : ByteArray).size ≤ 140737488355328 then if (((⟨#[91]⟩ : ByteArray) ++ t7) ++ (⟨#[93,58]⟩ : ByteArray)).size + t4.size ≤ 140737488355328 then some ((((⟨#[91]⟩ : ByteArray) ++ t7) ++ (⟨#[93,58]⟩ : ByteArray)) ++ t4) else none else none else none) else (addr_Text (mkA V l) >>= fun t11=>if t11.size + (⟨#[58]⟩ : ByteArray).size ≤ 140737488355328 then if (t11 ++ (⟨#[58]⟩ : ByteArray)).size + t4.size ≤ 140737488355328 then some ((t11 ++ (⟨#[58]⟩ : ByteArray)) ++ t4) else none else none)) = _
    rw [wr_u64 (by omega) (by omega),text_code k (by omega),bindM_some,width_code hl,bindM_some,addr_text hl,bindM_some,bindM_some,fmtU_bs,b91,b9358,b58]
    unfold hostL widthL
    rw [if_pos hrl]
    by_cases h4 : V = 4
    · rw [if_pos h4,if_pos h4,if_neg (by decide),if_pos (by rw [bs_size,bs_size]; simp only [List.length_cons,List.length_nil]; omega),bs_app,if_pos (by rw [bs_size,bs_size,List.length_append]; simp only [List.length_cons,List.length_nil]; omega),bs_app,List.append_assoc]; rfl
    · rw [if_neg h4,if_neg h4,if_pos (by decide),if_pos (by rw [bs_size,bs_size]; simp only [List.length_cons,List.length_nil]; omega),bs_app,if_pos (by rw [bs_size,bs_size,List.length_append]; simp only [List.length_cons,List.length_nil]; omega),bs_app,if_pos (by rw [bs_size,bs_size,List.length_append,List.length_append]; simp only [List.length_cons,List.length_nil]; omega),bs_app,List.append_assoc,List.append_assoc]; rfl
theorem text_ref12 {V n : Int} {l : List UInt8} (hl : l.length = 16) : crawlwayref12_Text (mkE (mkA V l) n) = some (bs (if rightE V l n = true then hostL V l n.toNat else [])):=by
  unfold crawlwayref12_Text
  rw [right_ref12 hl,bindM_some]
  cases hr : rightE V l n with
  | false=>rw [if_pos (show (!false) = true from rfl)]; rfl
  | true =>
    obtain ⟨hrl,k,rfl,h1,h2⟩:=rightE_iff hr
    have ht:=adrT_len (V:=V) hl
    have hd:=dig5 k h2
    have b91 : (⟨#[91]⟩ : ByteArray) = bs [91]:=rfl
    have b93 : (⟨#[93]⟩ : ByteArray) = bs [93]:=rfl
    have b58 : (⟨#[58]⟩ : ByteArray) = bs [58]:=rfl
    rw [if_neg (show ¬ (!true) = true by decide),if_pos rfl,Int.toNat_natCast]
    show (crawlwayref03_Text (wr .u64 (k : Int)) >>= fun t4=>if (⟨#[58]⟩ : ByteArray).size + t4.size ≤ 140737488355328 then if (V == 6) = true then (crawlwayref10_Text (mkA V l) >>= fun t7=>if (⟨#[91]⟩ : ByteArray).size + t7.size ≤ 140737488355328 then if ((⟨#[91]⟩ : ByteArray) ++ t7).size + (⟨#[93]⟩ : ByteArray).size ≤ 140737488355328 then if (((⟨#[91]⟩ : ByteArray) ++ t7) ++ (⟨#[93]⟩ : ByteArray)).size + ((⟨#[58]⟩ : ByteArray) ++ t4).size ≤ 140737488355328 then some ((((⟨#[91]⟩ : ByteArray) ++ t7) ++ (⟨#[93]⟩ : ByteArray)) ++ ((⟨#[58]⟩ : ByteArray) ++ t4)) else none else none else none) else (crawlwayref10_Text (mkA V l) >>= fun t11=>if t11.size + ((⟨#[58]⟩ : ByteArray) ++ t4).size ≤ 140737488355328 then some (t11 ++ ((⟨#[58]⟩ : ByteArray) ++ t4)) else none) else none) = _
    rw [wr_u64 (by omega) (by omega),text_ref k (by omega),bindM_some,ref_text10 hl,bindM_some,bindM_some,fmtU_bs,b91,b93,b58,if_pos (by rw [bs_size,bs_size]; simp only [List.length_cons,List.length_nil]; omega),bs_app]
    unfold hostL
    rcases right_cases hrl with h6 | ⟨h4,_⟩
    · subst h6
      rw [if_pos (show ((6 : Int) == 6) = true from rfl),if_neg (show ¬ (6 : Int) = 4 by decide),if_pos (by rw [bs_size,bs_size]; simp only [List.length_cons,List.length_nil]; omega),bs_app,if_pos (by rw [bs_size,bs_size,List.length_append]; simp only [List.length_cons,List.length_nil]; omega),bs_app,if_pos (by rw [bs_size,bs_size,List.length_append,List.length_append,List.length_append]; simp only [List.length_cons,List.length_nil]; omega),bs_app,List.append_assoc,List.append_assoc]; rfl
    · subst h4
      rw [if_neg (show ¬ ((4 : Int) == 6) = true by decide),if_pos rfl,if_pos (by rw [bs_app,bs_size,bs_size,List.length_append]; simp only [List.length_cons,List.length_nil]; omega),bs_app,bs_app]; rfl
theorem dg_93 : ∀ n : Fin 16,Hex.dg n.1 ≠ 93:=by decide +kernel
theorem g1_93 (n : Nat) : ∀ x ∈ Col.g1 n,x ≠ 93:=by
  induction n using Nat.strongRecOn with
  | _ n ih =>
    intro x hx
    unfold Col.g1 Hex.grp at hx
    split at hx
    · next h =>
      simp only [Hex.dig,List.mem_singleton] at hx
      subst hx
      exact dg_93 ⟨n,h⟩
    · next h =>
      rw [append_list] at hx
      rcases List.mem_append.1 hx with hx | hx
      · exact ih _ (show n / 16 < n by omega) x hx
      · simp only [Hex.dig,List.mem_singleton] at hx
        subst hx
        exact dg_93 ⟨n % 16,by omega⟩
theorem rowL_93 : ∀ (G : List Nat),∀ x ∈ Col.rowL G,x ≠ 93
  | [],x,h=>by cases h
  | [n],x,h=>g1_93 n x h
  | n::m::r,x,h=>by
    rcases List.mem_append.1 h with h | h
    · exact g1_93 n x h
    · rcases List.mem_cons.1 h with rfl | h
      · decide
      · exact rowL_93 (m::r) x h
theorem textL_93 (G : List Nat) : ∀ x ∈ Col.textL G,x ≠ 93:=by
  intro x h
  unfold Col.textL at h
  split at h
  · exact rowL_93 _ x h
  · rcases List.mem_append.1 h with h | h
    · exact rowL_93 _ x h
    · rcases List.mem_cons.1 h with rfl | h
      · decide
      · rcases List.mem_cons.1 h with rfl | h
        · decide
        · exact rowL_93 _ x h
theorem cutL_at (r : List UInt8) : ∀ (p : List UInt8),(∀ x ∈ p,x ≠ 93) → cutL (p ++ 93::58::r) = some (p,r)
  | [],_=>rfl
  | c::p,h=>by
    have hc:=h c (List.mem_cons_self ..)
    have hB : isB (c::(p ++ 93::58::r)) = false:=by
      cases hb : isB (c::(p ++ 93::58::r)) with
      | false=>rfl
      | true =>
        obtain ⟨r2,h2⟩:=(isB_iff _).1 hb
        exact absurd (List.cons.inj h2).1 hc
    show cutL (c::(p ++ 93::58::r)) = _
    rw [cutL,hB,if_neg Bool.false_ne_true,cutL_at r p fun x hx=>h x (List.mem_cons_of_mem _ hx)]; rfl
theorem six_qText {m : List UInt8} (hm : m.length = 4) (r : List UInt8) : six (qText m ++ r) = false:=by
  match m,hm with
  | [a,b,c,d],_ =>
    show six ((Lib.decDigits a.toNat ++ 46::(Lib.decDigits b.toNat ++ 46::(Lib.decDigits c.toNat ++ 46::Lib.decDigits d.toNat))) ++ r) = false
    cases hd : Lib.decDigits a.toNat with
    | nil=>exact absurd hd (decDigits_ne _)
    | cons x t =>
      have hx:=dig_iff.1 (List.all_eq_true.1 (decDigits_dig a.toNat) x (by rw [hd]; exact List.mem_cons_self ..))
      show (some x == some 91) = false
      rw [beq_eq_false_iff_ne]
      intro e
      cases e
      have : (91 : UInt8).toNat = 91:=rfl
      omega
theorem endQ_right {V : Int} {l : List UInt8} (hl : l.length = 16) (hr : rightL V l = true) (k : Nat) (h1 : 1 ≤ k) (h2 : k ≤ 65535) : endQ (adrT V l) (Lib.decDigits k) = (mkE (mkA V l) (k : Int),0):=by
  unfold endQ
  rw [parse_text10 hl hr,rdU_text,if_pos h2]
  show (if (0 : Int) = 0 then (if (0 : Nat) = 0 then (if k = 0 then _ else _) else _) else _) = _
  rw [if_pos rfl,if_pos rfl,if_neg (by omega)]
theorem endP_text {V : Int} {l : List UInt8} (hl : l.length = 16) (hr : rightL V l = true) (k : Nat) (h1 : 1 ≤ k) (h2 : k ≤ 65535) : endP (hostL V l k) = (mkE (mkA V l) (k : Int),0):=by
  have hq:=endQ_right hl hr k h1 h2
  unfold endP halL hostL
  rcases right_cases hr with h6 | ⟨h4,_⟩
  · subst h6
    have hg : (Col.gr l).length = 8:=by rw [Col.gr_len,hl]
    have he : adrT 6 l = Col.textL (Col.gr l):=by unfold adrT; rw [if_pos hr,if_neg (show ¬ (6 : Int) = 4 by decide)]
    rw [he] at hq ⊢
    rw [if_neg (show ¬ (6 : Int) = 4 by decide),if_pos (show six (91::(Col.textL (Col.gr l) ++ 93::58::Lib.decDigits k)) = true from rfl)]
    show (match (cutL (Col.textL (Col.gr l) ++ 93::58::Lib.decDigits k)).bind fun q=>if hasC q.1 = true then some q else none with | some (h,p)=>endQ h p | none=>(zE,5)) = _
    rw [cutL_at _ _ (textL_93 _),Option.bind_some,textL_colon hg,if_pos rfl]
    exact hq
  · subst h4
    have h4l : (l.take 4).length = 4:=by rw [List.length_take]; omega
    have he : adrT 4 l = qText (l.take 4):=by unfold adrT; rw [if_pos hr,if_pos rfl]
    rw [he] at hq ⊢
    rw [if_pos rfl,six_qText h4l,if_neg Bool.false_ne_true,f58_at _ _ (hasC_no (qText_nocolon h4l))]
    exact hq
end Go.Proofs.YtkkmmpofdcccmaaGreatDoor.Host
namespace Go.Proofs.YtkkmmpofdcccmaaGreatDoor.HexK
open E Go.RowKit
open Adr AdrT
theorem rightE_of {V : Int} {m : List UInt8} {k : Nat} (hr : rightL V m = true) (h1 : 1 ≤ k) (h2 : k ≤ 65535) : Host.rightE V m (k : Int) = true:=by
  unfold Host.rightE
  rw [hr,decide_eq_true (show (1 : Int) ≤ (k : Int) by omega),decide_eq_true (show (k : Int) ≤ 65535 by omega)]; rfl
end Go.Proofs.YtkkmmpofdcccmaaGreatDoor.HexK
namespace Go.Proofs.YtkkmmpofdcccmaaGreatDoor
open E Go.RowKit _root_.Go.Proofs.Tryz
def script_Parse (x0 : ByteArray) : Option (S_api_Item × Int) :=
  if (0 : Int) ≤ 0 ∧ 0 < ((⟨#[32]⟩ : ByteArray).size : Int) then lines_Parts x0 (bt (⟨#[32]⟩ : ByteArray) 0) >>= fun t3=>if (0 : Int) ≤ 0 ∧ 0 < (t3.length : Int) then script_kind (lget t3 0) >>= fun t10=>if (({ ({ f_Kind:=(0 : Int),f_Bytes:=([] : List Int),f_From:=({ f_A:=({ f_V:=(0 : Int),f_B:=(Vector.replicate 16 (0 : Int) : (Vector Int 16)) } : S_api_Addr),f_Port:=(0 : Int) } : S_api_Endpoint),f_Result:=([] : List Int),f_Ok:=false,f_Key:=(Vector.replicate 32 (0 : Int) : (Vector Int 32)),f_Local:=(0 : Int),f_Remote:=(0 : Int),f_Next:=(0 : Int) } : S_api_Item) with f_Kind:=t10 }).f_Kind == (1 : Int)) = true then (if (wr .i64 ((t3.length : Int) - 1) != 1) = true then (some (({ f_Kind:=(0 : Int),f_Bytes:=([] : List Int),f_From:=({ f_A:=({ f_V:=(0 : Int),f_B:=(Vector.replicate 16 (0 : Int) : (Vector Int 16)) } : S_api_Addr),f_Port:=(0 : Int) } : S_api_Endpoint),f_Result:=([] : List Int),f_Ok:=false,f_Key:=(Vector.replicate 32 (0 : Int) : (Vector Int 32)),f_Local:=(0 : Int),f_Remote:=(0 : Int),f_Next:=(0 : Int) } : S_api_Item),5)) else (if (0 : Int) ≤ wr .i64 (0 + 1) ∧ wr .i64 (0 + 1) < (t3.length : Int) then script_unword (lget t3 (wr .i64 (0 + 1))) >>= fun t31=>if (t31.2 != 0) = true then (some (({ f_Kind:=(0 : Int),f_Bytes:=([] : List Int),f_From:=({ f_A:=({ f_V:=(0 : Int),f_B:=(Vector.replicate 16 (0 : Int) : (Vector Int 16)) } : S_api_Addr),f_Port:=(0 : Int) } : S_api_Endpoint),f_Result:=([] : List Int),f_Ok:=false,f_Key:=(Vector.replicate 32 (0 : Int) : (Vector Int 32)),f_Local:=(0 : Int),f_Remote:=(0 : Int),f_Next:=(0 : Int) } : S_api_Item),t31.2)) else (some ({ { ({ f_Kind:=(0 : Int),f_Bytes:=([] : List Int),f_From:=({ f_A:=({ f_V:=(0 : Int),f_B:=(Vector.replicate 16 (0 : Int) : (Vector Int 16)) } : S_api_Addr),f_Port:=(0 : Int) } : S_api_Endpoint),f_Result:=([] : List Int),f_Ok:=false,f_Key:=(Vector.replicate 32 (0 : Int) : (Vector Int 32)),f_Local:=(0 : Int),f_Remote:=(0 : Int),f_Next:=(0 : Int) } : S_api_Item) with f_Kind:=t10 } with f_Bytes:=t31.1 },0)) else none)) else (if (({ ({ f_Kind:=(0 : Int),f_Bytes:=([] : List Int),f_From:=({ f_A:=({ f_V:=(0 : Int),f_B:=(Vector.replicate 16 (0 : Int) : (Vector Int 16)) } : S_api_Addr),f_Port:=(0 : Int) } : S_api_Endpoint),f_Result:=([] : List Int),f_Ok:=false,f_Key:=(Vector.replicate 32 (0 : Int) : (Vector Int 32)),f_Local:=(0 : Int),f_Remote:=(0 : Int),f_Next:=(0 : Int) } : S_api_Item) with f_Kind:=t10 }).f_Kind == (2 : Int)) = true then (if (wr .i64 ((t3.length : Int) - 1) != 1) = true then (some (({ f_Kind:=(0 : Int),f_Bytes:=([] : List Int),f_From:=({ f_A:=({ f_V:=(0 : Int),f_B:=(Vector.replicate 16 (0 : Int) : (Vector Int 16)) } : S_api_Addr),f_Port:=(0 : Int) } : S_api_Endpoint),f_Result:=([] : List Int),f_Ok:=false,f_Key:=(Vector.replicate 32 (0 : Int) : (Vector Int 32)),f_Local:=(0 : Int),f_Remote:=(0 : Int),f_Next:=(0 : Int) } : S_api_Item),5)) else (if (0 : Int) ≤ wr .i64 (0 + 1) ∧ wr .i64 (0 + 1) < (t3.length : Int) then script_unword (lget t3 (wr .i64 (0 + 1))) >>= fun t51=>if (t51.2 != 0) = true then (some (({ f_Kind:=(0 : Int),f_Bytes:=([] : List Int),f_From:=({ f_A:=({ f_V:=(0 : Int),f_B:=(Vector.replicate 16 (0 : Int) : (Vector Int 16)) } : S_api_Addr),f_Port:=(0 : Int) } : S_api_Endpoint),f_Result:=([] : List Int),f_Ok:=false,f_Key:=(Vector.replicate 32 (0 : Int) : (Vector Int 32)),f_Local:=(0 : Int),f_Remote:=(0 : Int),f_Next:=(0 : Int) } : S_api_Item),t51.2)) else (some ({ { ({ f_Kind:=(0 : Int),f_Bytes:=([] : List Int),f_From:=({ f_A:=({ f_V:=(0 : Int),f_B:=(Vector.replicate 16 (0 : Int) : (Vector Int 16)) } : S_api_Addr),f_Port:=(0 : Int) } : S_api_Endpoint),f_Result:=([] : List Int),f_Ok:=false,f_Key:=(Vector.replicate 32 (0 : Int) : (Vector Int 32)),f_Local:=(0 : Int),f_Remote:=(0 : Int),f_Next:=(0 : Int) } : S_api_Item) with f_Kind:=t10 } with f_Bytes:=t51.1 },0)) else none)) else (if (({ ({ f_Kind:=(0 : Int),f_Bytes:=([] : List Int),f_From:=({ f_A:=({ f_V:=(0 : Int),f_B:=(Vector.replicate 16 (0 : Int) : (Vector Int 16)) } : S_api_Addr),f_Port:=(0 : Int) } : S_api_Endpoint),f_Result:=([] : List Int),f_Ok:=false,f_Key:=(Vector.replicate 32 (0 : Int) : (Vector Int 32)),f_Local:=(0 : Int),f_Remote:=(0 : Int),f_Next:=(0 : Int) } : S_api_Item) with f_Kind:=t10 }).f_Kind == (3 : Int)) = true then (if (wr .i64 ((t3.length : Int) - 1) != 2) = true then (some (({ f_Kind:=(0 : Int),f_Bytes:=([] : List Int),f_From:=({ f_A:=({ f_V:=(0 : Int),f_B:=(Vector.replicate 16 (0 : Int) : (Vector Int 16)) } : S_api_Addr),f_Port:=(0 : Int) } : S_api_Endpoint),f_Result:=([] : List Int),f_Ok:=false,f_Key:=(Vector.replicate 32 (0 : Int) : (Vector Int 32)),f_Local:=(0 : Int),f_Remote:=(0 : Int),f_Next:=(0 : Int) } : S_api_Item),5)) else (if (0 : Int) ≤ wr .i64 (0 + 1) ∧ wr .i64 (0 + 1) < (t3.length : Int) then script_unword (lget t3 (wr .i64 (0 + 1))) >>= fun t72=>if (t72.2 != 0) = true then (some (({ f_Kind:=(0 : Int),f_Bytes:=([] : List Int),f_From:=({ f_A:=({ f_V:=(0 : Int),f_B:=(Vector.replicate 16 (0 : Int) : (Vector Int 16)) } : S_api_Addr),f_Port:=(0 : Int) } : S_api_Endpoint),f_Result:=([] : List Int),f_Ok:=false,f_Key:=(Vector.replicate 32 (0 : Int) : (Vector Int 32)),f_Local:=(0 : Int),f_Remote:=(0 : Int),f_Next:=(0 : Int) } : S_api_Item),t72.2)) else (if (0 : Int) ≤ wr .i64 (1 + 1) ∧ wr .i64 (1 + 1) < (t3.length : Int) then if (seq (lget t3 (wr .i64 (1 + 1))) (⟨#[33]⟩ : ByteArray)) = true then (some ({ { ({ f_Kind:=(0 : Int),f_Bytes:=([] : List Int),f_From:=({ f_A:=({ f_V:=(0 : Int),f_B:=(Vector.replicate 16 (0 : Int) : (Vector Int 16)) } : S_api_Addr),f_Port:=(0 : Int) } : S_api_Endpoint),f_Result:=([] : List Int),f_Ok:=false,f_Key:=(Vector.replicate 32 (0 : Int) : (Vector Int 32)),f_Local:=(0 : Int),f_Remote:=(0 : Int),f_Next:=(0 : Int) } : S_api_Item) with f_Kind:=t10 } with f_Bytes:=t72.1 },0)) else (script_unword (lget t3 (wr .i64 (1 + 1))) >>= fun t87=>if (t87.2 != 0) = true then (some (({ f_Kind:=(0 : Int),f_Bytes:=([] : List Int),f_From:=({ f_A:=({ f_V:=(0 : Int),f_B:=(Vector.replicate 16 (0 : Int) : (Vector Int 16)) } : S_api_Addr),f_Port:=(0 : Int) } : S_api_Endpoint),f_Result:=([] : List Int),f_Ok:=false,f_Key:=(Vector.replicate 32 (0 : Int) : (Vector Int 32)),f_Local:=(0 : Int),f_Remote:=(0 : Int),f_Next:=(0 : Int) } : S_api_Item),t87.2)) else (some ({ { { { ({ f_Kind:=(0 : Int),f_Bytes:=([] : List Int),f_From:=({ f_A:=({ f_V:=(0 : Int),f_B:=(Vector.replicate 16 (0 : Int) : (Vector Int 16)) } : S_api_Addr),f_Port:=(0 : Int) } : S_api_Endpoint),f_Result:=([] : List Int),f_Ok:=false,f_Key:=(Vector.replicate 32 (0 : Int) : (Vector Int 32)),f_Local:=(0 : Int),f_Remote:=(0 : Int),f_Next:=(0 : Int) } : S_api_Item) with f_Kind:=t10 } with f_Bytes:=t72.1 } with f_Ok:=true } with f_Result:=t87.1 },0))) else none) else none)) else (if (({ ({ f_Kind:=(0 : Int),f_Bytes:=([] : List Int),f_From:=({ f_A:=({ f_V:=(0 : Int),f_B:=(Vector.replicate 16 (0 : Int) : (Vector Int 16)) } : S_api_Addr),f_Port:=(0 : Int) } : S_api_Endpoint),f_Result:=([] : List Int),f_Ok:=false,f_Key:=(Vector.replicate 32 (0 : Int) : (Vector Int 32)),f_Local:=(0 : Int),f_Remote:=(0 : Int),f_Next:=(0 : Int) } : S_api_Item) with f_Kind:=t10 }).f_Kind == (4 : Int)) = true then (if (wr .i64 ((t3.length : Int) - 1) != 3) = true then (some (({ f_Kind:=(0 : Int),f_Bytes:=([] : List Int),f_From:=({ f_A:=({ f_V:=(0 : Int),f_B:=(Vector.replicate 16 (0 : Int) : (Vector Int 16)) } : S_api_Addr),f_Port:=(0 : Int) } : S_api_Endpoint),f_Result:=([] : List Int),f_Ok:=false,f_Key:=(Vector.replicate 32 (0 : Int) : (Vector Int 32)),f_Local:=(0 : Int),f_Remote:=(0 : Int),f_Next:=(0 : Int) } : S_api_Item),5)) else (if (0 : Int) ≤ wr .i64 (0 + 1) ∧ wr .i64 (0 + 1) < (t3.length : Int) then hostport_Parse (lget t3 (wr .i64 (0 + 1))) >>= fun t111=>if (t111.2 != 0) = true then (some (({ f_Kind:=(0 : Int),f_Bytes:=([] : List Int),f_From:=({ f_A:=({ f_V:=(0 : Int),f_B:=(Vector.replicate 16 (0 : Int) : (Vector Int 16)) } : S_api_Addr),f_Port:=(0 : Int) } : S_api_Endpoint),f_Result:=([] : List Int),f_Ok:=false,f_Key:=(Vector.replicate 32 (0 : Int) : (Vector Int 32)),f_Local:=(0 : Int),f_Remote:=(0 : Int),f_Next:=(0 : Int) } : S_api_Item),t111.2)) else (if (0 : Int) ≤ wr .i64 (1 + 1) ∧ wr .i64 (1 + 1) < (t3.length : Int) then script_unword (lget t3 (wr .i64 (1 + 1))) >>= fun t120=>if (t120.2 != 0) = true then (some (({ f_Kind:=(0 : Int),f_Bytes:=([] : List Int),f_From:=({ f_A:=({ f_V:=(0 : Int),f_B:=(Vector.replicate 16 (0 : Int) : (Vector Int 16)) } : S_api_Addr),f_Port:=(0 : Int) } : S_api_Endpoint),f_Result:=([] : List Int),f_Ok:=false,f_Key:=(Vector.replicate 32 (0 : Int) : (Vector Int 32)),f_Local:=(0 : Int),f_Remote:=(0 : Int),f_Next:=(0 : Int) } : S_api_Item),t120.2)) else (if (0 : Int) ≤ wr .i64 (2 + 1) ∧ wr .i64 (2 + 1) < (t3.length : Int) then if (seq (lget t3 (wr .i64 (2 + 1))) (⟨#[33]⟩ : ByteArray)) = true then (some ({ { { ({ f_Kind:=(0 : Int),f_Bytes:=([] : List Int),f_From:=({ f_A:=({ f_V:=(0 : Int),f_B:=(Vector.replicate 16 (0 : Int) : (Vector Int 16)) } : S_api_Addr),f_Port:=(0 : Int) } : S_api_Endpoint),f_Result:=([] : List Int),f_Ok:=false,f_Key:=(Vector.replicate 32 (0 : Int) : (Vector Int 32)),f_Local:=(0 : Int),f_Remote:=(0 : Int),f_Next:=(0 : Int) } : S_api_Item) with f_Kind:=t10 } with f_From:=t111.1 } with f_Bytes:=t120.1 },0)) else (script_unword (lget t3 (wr .i64 (2 + 1))) >>= fun t135=>if (t135.2 != 0) = true then (some (({ f_Kind:=(0 : Int),f_Bytes:=([] : List Int),f_From:=({ f_A:=({ f_V:=(0 : Int),f_B:=(Vector.replicate 16 (0 : Int) : (Vector Int 16)) } : S_api_Addr),f_Port:=(0 : Int) } : S_api_Endpoint),f_Result:=([] : List Int),f_Ok:=false,f_Key:=(Vector.replicate 32 (0 : Int) : (Vector Int 32)),f_Local:=(0 : Int),f_Remote:=(0 : Int),f_Next:=(0 : Int) } : S_api_Item),t135.2)) else (some ({ { { { { ({ f_Kind:=(0 : Int),f_Bytes:=([] : List Int),f_From:=({ f_A:=({ f_V:=(0 : Int),f_B:=(Vector.replicate 16 (0 : Int) : (Vector Int 16)) } : S_api_Addr),f_Port:=(0 : Int) } : S_api_Endpoint),f_Result:=([] : List Int),f_Ok:=false,f_Key:=(Vector.replicate 32 (0 : Int) : (Vector Int 32)),f_Local:=(0 : Int),f_Remote:=(0 : Int),f_Next:=(0 : Int) } : S_api_Item) with f_Kind:=t10 } with f_From:=t111.1 } with f_Bytes:=t120.1 } with f_Ok:=true } with f_Result:=t135.1 },0))) else none) else none) else none)) else (if (({ ({ f_Kind:=(0 : Int),f_Bytes:=([] : List Int),f_From:=({ f_A:=({ f_V:=(0 : Int),f_B:=(Vector.replicate 16 (0 : Int) : (Vector Int 16)) } : S_api_Addr),f_Port:=(0 : Int) } : S_api_Endpoint),f_Result:=([] : List Int),f_Ok:=false,f_Key:=(Vector.replicate 32 (0 : Int) : (Vector Int 32)),f_Local:=(0 : Int),f_Remote:=(0 : Int),f_Next:=(0 : Int) } : S_api_Item) with f_Kind:=t10 }).f_Kind == (5 : Int)) = true then (if (wr .i64 ((t3.length : Int) - 1) != 4) = true then (some (({ f_Kind:=(0 : Int),f_Bytes:=([] : List Int),f_From:=({ f_A:=({ f_V:=(0 : Int),f_B:=(Vector.replicate 16 (0 : Int) : (Vector Int 16)) } : S_api_Addr),f_Port:=(0 : Int) } : S_api_Endpoint),f_Result:=([] : List Int),f_Ok:=false,f_Key:=(Vector.replicate 32 (0 : Int) : (Vector Int 32)),f_Local:=(0 : Int),f_Remote:=(0 : Int),f_Next:=(0 : Int) } : S_api_Item),5)) else (if (0 : Int) ≤ wr .i64 (0 + 1) ∧ wr .i64 (0 + 1) < (t3.length : Int) then keys_ParseHex (lget t3 (wr .i64 (0 + 1))) >>= fun t157=>if (t157.2 != 0) = true then (some (({ f_Kind:=(0 : Int),f_Bytes:=([] : List Int),f_From:=({ f_A:=({ f_V:=(0 : Int),f_B:=(Vector.replicate 16 (0 : Int) : (Vector Int 16)) } : S_api_Addr),f_Port:=(0 : Int) } : S_api_Endpoint),f_Result:=([] : List Int),f_Ok:=false,f_Key:=(Vector.replicate 32 (0 : Int) : (Vector Int 32)),f_Local:=(0 : Int),f_Remote:=(0 : Int),f_Next:=(0 : Int) } : S_api_Item),t157.2)) else (if (0 : Int) ≤ wr .i64 (1 + 1) ∧ wr .i64 (1 + 1) < (t3.length : Int) then decimal_Read (lget t3 (wr .i64 (1 + 1))) 4294967295 >>= fun t166=>if (t166.2 != 0) = true then (some (({ f_Kind:=(0 : Int),f_Bytes:=([] : List Int),f_From:=({ f_A:=({ f_V:=(0 : Int),f_B:=(Vector.replicate 16 (0 : Int) : (Vector Int 16)) } : S_api_Addr),f_Port:=(0 : Int) } : S_api_Endpoint),f_Result:=([] : List Int),f_Ok:=false,f_Key:=(Vector.replicate 32 (0 : Int) : (Vector Int 32)),f_Local:=(0 : Int),f_Remote:=(0 : Int),f_Next:=(0 : Int) } : S_api_Item),t166.2)) else (if (0 : Int) ≤ wr .i64 (2 + 1) ∧ wr .i64 (2 + 1) < (t3.length : Int) then decimal_Read (lget t3 (wr .i64 (2 + 1))) 4294967295 >>= fun t175=>if (t175.2 != 0) = true then (some (({ f_Kind:=(0 : Int),f_Bytes:=([] : List Int),f_From:=({ f_A:=({ f_V:=(0 : Int),f_B:=(Vector.replicate 16 (0 : Int) : (Vector Int 16)) } : S_api_Addr),f_Port:=(0 : Int) } : S_api_Endpoint),f_Result:=([] : List Int),f_Ok:=false,f_Key:=(Vector.replicate 32 (0 : Int) : (Vector Int 32)),f_Local:=(0 : Int),f_Remote:=(0 : Int),f_Next:=(0 : Int) } : S_api_Item),t175.2)) else (if (0 : Int) ≤ wr .i64 (3 + 1) ∧ wr .i64 (3 + 1) < (t3.length : Int) then decimal_Read (lget t3 (wr .i64 (3 + 1))) 18446744073709551615 >>= fun t184=>if (t184.2 != 0) = true then (some (({ f_Kind:=(0 : Int),f_Bytes:=([] : List Int),f_From:=({ f_A:=({ f_V:=(0 : Int),f_B:=(Vector.replicate 16 (0 : Int) : (Vector Int 16)) } : S_api_Addr),f_Port:=(0 : Int) } : S_api_Endpoint),f_Result:=([] : List Int),f_Ok:=false,f_Key:=(Vector.replicate 32 (0 : Int) : (Vector Int 32)),f_Local:=(0 : Int),f_Remote:=(0 : Int),f_Next:=(0 : Int) } : S_api_Item),t184.2)) else (some ({ { { { { ({ f_Kind:=(0 : Int),f_Bytes:=([] : List Int),f_From:=({ f_A:=({ f_V:=(0 : Int),f_B:=(Vector.replicate 16 (0 : Int) : (Vector Int 16)) } : S_api_Addr),f_Port:=(0 : Int) } : S_api_Endpoint),f_Result:=([] : List Int),f_Ok:=false,f_Key:=(Vector.replicate 32 (0 : Int) : (Vector Int 32)),f_Local:=(0 : Int),f_Remote:=(0 : Int),f_Next:=(0 : Int) } : S_api_Item) with f_Kind:=t10 } with f_Key:=t157.1 } with f_Local:=wr .u32 t166.1 } with f_Remote:=wr .u32 t175.1 } with f_Next:=t184.1 },0)) else none) else none) else none) else none)) else (if (({ ({ f_Kind:=(0 : Int),f_Bytes:=([] : List Int),f_From:=({ f_A:=({ f_V:=(0 : Int),f_B:=(Vector.replicate 16 (0 : Int) : (Vector Int 16)) } : S_api_Addr),f_Port:=(0 : Int) } : S_api_Endpoint),f_Result:=([] : List Int),f_Ok:=false,f_Key:=(Vector.replicate 32 (0 : Int) : (Vector Int 32)),f_Local:=(0 : Int),f_Remote:=(0 : Int),f_Next:=(0 : Int) } : S_api_Item) with f_Kind:=t10 }).f_Kind == (6 : Int)) = true then (if (wr .i64 ((t3.length : Int) - 1) != 1) = true then (some (({ f_Kind:=(0 : Int),f_Bytes:=([] : List Int),f_From:=({ f_A:=({ f_V:=(0 : Int),f_B:=(Vector.replicate 16 (0 : Int) : (Vector Int 16)) } : S_api_Addr),f_Port:=(0 : Int) } : S_api_Endpoint),f_Result:=([] : List Int),f_Ok:=false,f_Key:=(Vector.replicate 32 (0 : Int) : (Vector Int 32)),f_Local:=(0 : Int),f_Remote:=(0 : Int),f_Next:=(0 : Int) } : S_api_Item),5)) else (if (0 : Int) ≤ wr .i64 (0 + 1) ∧ wr .i64 (0 + 1) < (t3.length : Int) then decimal_Read (lget t3 (wr .i64 (0 + 1))) 4294967295 >>= fun t199=>if (t199.2 != 0) = true then (some (({ f_Kind:=(0 : Int),f_Bytes:=([] : List Int),f_From:=({ f_A:=({ f_V:=(0 : Int),f_B:=(Vector.replicate 16 (0 : Int) : (Vector Int 16)) } : S_api_Addr),f_Port:=(0 : Int) } : S_api_Endpoint),f_Result:=([] : List Int),f_Ok:=false,f_Key:=(Vector.replicate 32 (0 : Int) : (Vector Int 32)),f_Local:=(0 : Int),f_Remote:=(0 : Int),f_Next:=(0 : Int) } : S_api_Item),t199.2)) else (some ({ { ({ f_Kind:=(0 : Int),f_Bytes:=([] : List Int),f_From:=({ f_A:=({ f_V:=(0 : Int),f_B:=(Vector.replicate 16 (0 : Int) : (Vector Int 16)) } : S_api_Addr),f_Port:=(0 : Int) } : S_api_Endpoint),f_Result:=([] : List Int),f_Ok:=false,f_Key:=(Vector.replicate 32 (0 : Int) : (Vector Int 32)),f_Local:=(0 : Int),f_Remote:=(0 : Int),f_Next:=(0 : Int) } : S_api_Item) with f_Kind:=t10 } with f_Local:=wr .u32 t199.1 },0)) else none)) else (some (({ f_Kind:=(0 : Int),f_Bytes:=([] : List Int),f_From:=({ f_A:=({ f_V:=(0 : Int),f_B:=(Vector.replicate 16 (0 : Int) : (Vector Int 16)) } : S_api_Addr),f_Port:=(0 : Int) } : S_api_Endpoint),f_Result:=([] : List Int),f_Ok:=false,f_Key:=(Vector.replicate 32 (0 : Int) : (Vector Int 32)),f_Local:=(0 : Int),f_Remote:=(0 : Int),f_Next:=(0 : Int) } : S_api_Item),12))))))) else none else none
set_option maxHeartbeats 3200000 in
theorem script_Parse_ok {x0 : ByteArray} {r : S_api_Item × Int} (hF : script_Parse x0 = some r) : ∀ {w0 w : World} {G_ : List Ent} {Z_ : List Nat} {s_ : World} (hw_ : Wd w0 (frzE w0 Z_ s_::G_) w) (hg_bytealg_MaxLen : GV_bytealg_MaxLen w0) (hg_strconv_ErrRange : GV_strconv_ErrRange w0) (hg_strconv_ErrSyntax : GV_strconv_ErrSyntax w0) (hg_strconv_uint64pow10 : GV_strconv_uint64pow10 w0),
    Calls Tryz.prog 25 #[.string x0] w (fun e w'=>∃ (Z' : List Nat) (s' : World) (z : G_api_Item),Mono (KZ w0 Z_) s_ (KZ w0 Z') s' ∧ e = .returned (.tuple #[.agg (Cd.cs c_api_Item (z,r.1)).toArray,.int .i64 r.2]) ∧ (NK_api_Item (KZ w0 Z') s' (z,r.1)) ∧ Wd w0 (frzE w0 Z' s'::G_) w'):=by
 intro w0 w G_ Z_ s_   hw_ hg_bytealg_MaxLen hg_strconv_ErrRange hg_strconv_ErrSyntax hg_strconv_uint64pow10
 unfold script_Parse at hF
 refine calls_enter (l:=[.string x0]) func25 rfl rfl rfl ?_
 refine at_enterF hw_ ?_
 clear hw_
 obtain ⟨Z0_,hZ0_⟩ : ∃ Z0_,Z0_ = Z_:=⟨_,rfl⟩
 obtain ⟨s0_,hs0_⟩ : ∃ s0_,s0_ = s_:=⟨_,rfl⟩
 have hM_ : Mono (KZ w0 Z0_) s0_ (KZ w0 Z_) s_:=by rw [hZ0_,hs0_]; exact Mono.refl _ _
 rw [← hZ0_,← hs0_]
 rw [show frzE w0 Z0_ s0_ = frzE w0 Z_ s_ from by rw [hZ0_,hs0_]]
 refine sr ?_
 refine at_alloc (cs:=Cd.cs c_api_Item zv6) zeroValue33 rfl rfl ?_
 intro b1
 refine aa rfl rfl ?_
 refine ns ?_
 refine am rfl rfl ?_
 obtain ⟨h2,hF⟩:=of_guard hF
 refine av rfl (r_index_str underlying9 rfl rfl h2) ?_
 obtain ⟨t3,ht3,hF⟩:=of_bindM hF
 refine at_callO (c:=cStr) (e:=9) (ys:=t3) (V:=fun p cap=>.slice p t3.length cap) func48 rfl (by kernel_rfl) rfl rfl (fun w hw=>lines_Parts_ok _ _ _ ht3 w) ?_
 intro p4 c5
 refine aa rfl rfl ?_
 refine ns ?_
 refine am rfl rfl ?_
 obtain ⟨h6,hF⟩:=of_guard hF
 refine at_pure (φ:=∃ b o,p4 = some ⟨b,o,none⟩) (fun _ hw=>row_ptr (hw.own .z).row h6) ?_
 rintro ⟨b8,o9,hp7⟩
 refine av rfl (r_idx underlying38 sizeOf9 rfl rfl h6 hp7) ?_
 refine av rfl (r_load_cell isAgg9 rfl (fun _ hw=>row_cell0 (W:=fun w1=>w1 = _) (fun w1 h=>by subst h; exact Below.refl _ _) (hw.own .z).row h6 hp7 rfl _ rfl)) ?_
 obtain ⟨t10,ht10,hF⟩:=of_bindM hF
 refine at_callB func49 rfl (by kernel_rfl) rfl rfl (fun w hw=>script_kind_ok _ _ ht10 w (hg_bytealg_MaxLen.on hw.below) (hg_strconv_ErrRange.on hw.below) (hg_strconv_ErrSyntax.on hw.below) (hg_strconv_uint64pow10.on hw.below)) ?_
 refine av rfl (r_build_struct (zs:=Cd.cs c_api_Item zv6) (cs:=Cd.cs c_api_Item (zv5,{ zv4 with f_Kind:=t10 })) underlying33 zeroValue33 rfl (places_api_Item_33) rfl (fill_step (c:=(cInt .i64)) (z:=t10) rfl (c_api_Item_f_Kind zv5 zv4) rfl rfl)) ?_
 refine at_alloc (cs:=Cd.cs c_api_Item zv6) zeroValue33 rfl rfl ?_
 intro b11
 refine at_store (c:=c_api_Item) (z:=(zv5,{ zv4 with f_Kind:=t10 })) .z (Lens.whole _ _) sizeOf33 rfl rfl rfl ?_
 refine nwx [5,4,2] rfl ?_
 refine fa 0 underlying33 rfl rfl sizeOf3 rfl rfl ?_
 refine av rfl (r_load_cell isAgg3 rfl (lens_cell0 (c:=(cInt .i64)) (y:=({ zv4 with f_Kind:=t10 }).f_Kind) .z (c_api_Item_f_Kind zv5 ({ zv4 with f_Kind:=t10 })) rfl)) ?_
 refine at_callI func46 rfl (by kernel_rfl) rfl rfl rfl rfl ?_
 refine sr ?_
 refine at_alloc (cs:=zl19) zeroValue98 rfl rfl ?_
 intro b12
 refine aa rfl rfl ?_
 refine nwx [2,0] rfl ?_
 refine at_callI func75 rfl (by kernel_rfl) rfl rfl rfl rfl ?_
 refine sr ?_
 refine at_box (cs:=zl21) rfl rfl rfl ?_
 intro b13
 refine at_alloc (cs:=zl20) zeroValue104 rfl rfl ?_
 intro b14
 refine nwx [2,1] rfl ?_
 refine av rfl (r_makeFunc rfl) ?_
 refine av rfl (r_makeFunc rfl) ?_
 refine av rfl (r_makeFunc rfl) ?_
 refine av rfl (r_build_struct (zs:=zl20) (cs:=(zl6 b13)) underlying104 zeroValue104 rfl placesR_104 rfl rfl) ?_
 refine sa 3 ((zl6 b13)) .z rfl rfl sizeOf104 rfl rfl rfl ?_
 refine nwq [2] rfl ?_
 refine at_ret ?_
 refine at_resI1 rfl (res_cell (c:=cK 3 (by decide)) (y:=ck 3 ((zl6 b13)) rfl) rfl .z (Lens.whole _ _) isAgg104 sizeOf104 (.inl rfl)) ?_
 refine at_alloc (cs:=zl20) zeroValue104 rfl rfl ?_
 intro b15
 refine sa 3 ((zl6 b13)) .z rfl rfl sizeOf104 rfl rfl rfl ?_
 refine at_nil ?_
 refine at_drop (H:=_) (.s .z) ?_
 refine wq [4,2,0] rfl ?_
 refine tn ?_
 refine sr ?_
 refine at_callI func75 rfl (by kernel_rfl) rfl rfl rfl rfl ?_
 refine sr ?_
 refine at_box (cs:=zl22) rfl rfl rfl ?_
 intro b16
 refine at_alloc (cs:=zl20) zeroValue104 rfl rfl ?_
 intro b17
 refine nwx [2,1] rfl ?_
 refine av rfl (r_makeFunc rfl) ?_
 refine av rfl (r_makeFunc rfl) ?_
 refine av rfl (r_makeFunc rfl) ?_
 refine av rfl (r_build_struct (zs:=zl20) (cs:=(zl6 b16)) underlying104 zeroValue104 rfl placesR_104 rfl rfl) ?_
 refine sa 3 ((zl6 b16)) .z rfl rfl sizeOf104 rfl rfl rfl ?_
 refine nwq [2] rfl ?_
 refine at_ret ?_
 refine at_resI1 rfl (res_cell (c:=cK 3 (by decide)) (y:=ck 3 ((zl6 b16)) rfl) rfl .z (Lens.whole _ _) isAgg104 sizeOf104 (.inl rfl)) ?_
 refine at_alloc (cs:=zl20) zeroValue104 rfl rfl ?_
 intro b18
 refine sa 3 ((zl6 b16)) .z rfl rfl sizeOf104 rfl rfl rfl ?_
 refine at_nil ?_
 refine at_drop (H:=_) (.s .z) ?_
 refine tn ?_
 refine at_seq ?_
 refine sr ?_
 refine am rfl rfl ?_
 refine nwq [8,5,4,2] rfl ?_
 refine at_block ?_
 refine sr ?_
 refine av rfl (r_ieql rfl rfl) ?_
 refine aa rfl rfl ?_
 refine nwq [9,8,5,4,2] rfl ?_
 rcases oi hF with ⟨h19,hF⟩|⟨h19,hF⟩
 ·refine ct rfl h19 ?_
  refine sr ?_
  refine at_callI func78 rfl (by kernel_rfl) rfl rfl rfl rfl ?_
  refine dz ?_
  refine dz ?_
  refine dz ?_
  refine dz ?_
  refine at_weak [] trivial ?_
  refine sr ?_
  refine at_alloc (cs:=zl20) zeroValue104 rfl rfl ?_
  intro b20
  refine nwx [0] rfl ?_
  refine av rfl (r_build_struct (zs:=zl20) (cs:=zl11) underlying104 zeroValue104 rfl placesR_104 rfl rfl) ?_
  refine sa 3 (zl11) .z rfl rfl sizeOf104 rfl rfl rfl ?_
  refine nwq [0] rfl ?_
  refine at_ret ?_
  refine at_resI1 rfl (res_cell (c:=cK 3 (by decide)) (y:=ck 3 (zl11) rfl) rfl .z (Lens.whole _ _) isAgg104 sizeOf104 (.inl rfl)) ?_
  refine at_litG (cs:=zl11) underlying96 sizeOf104 zeroValue104 rfl rfl rfl (by kernel_rfl) rfl ?_
  intro b21
  refine av rfl (r_build_struct (zs:=zl19) (cs:=(zl16 b21)) underlying98 zeroValue98 rfl placesR_98 rfl rfl) ?_
  refine sa 2 ((zl16 b21)) (.s (.s .z)) rfl rfl sizeOf98 rfl rfl rfl ?_
  refine aa rfl rfl ?_
  refine at_nil ?_
  refine at_drop (H:=_) (.s .z) ?_
  refine wq [3,2] rfl ?_
  refine tn ?_
  refine at_ret ?_
  refine at_blk_ret (at_then_ret ?_)
  refine at_resI2 rfl (res_cell (c:=cK 2 (by decide)) (y:=ck 2 ((zl16 b21)) rfl) rfl (.s .z) (Lens.whole _ _) isAgg98 sizeOf98 (.inl rfl)) (res_tmp rfl) ?_
  refine am rfl rfl ?_
  refine av rfl (r_extract rfl rfl) ?_
  refine av rfl (r_extract rfl rfl) ?_
  refine at_alloc (cs:=zl19) zeroValue98 rfl rfl ?_
  intro b22
  refine sa 2 ((zl16 b21)) .z rfl rfl sizeOf98 rfl rfl rfl ?_
  refine aa rfl rfl ?_
  refine at_nil ?_
  refine at_drop (H:=_) (.s (.s .z)) ?_
  refine wq [7,6,5,4,2] rfl ?_
  refine tn ?_
  refine at_seq ?_
  refine at_block ?_
  refine sr ?_
  refine am rfl rfl ?_
  refine av rfl (r_not rfl) ?_
  refine aa rfl rfl ?_
  refine nwq [25,6,5,4,2] rfl ?_
  refine cf rfl rfl ?_
  refine sr ?_
  refine am rfl rfl ?_
  refine av rfl (r_len_sl underlying38 rfl) ?_
  refine av rfl (r_isub rfl rfl) ?_
  refine fa 1 underlying98 rfl rfl sizeOf96 rfl rfl ?_
  refine av rfl (r_load_cell isAgg96 rfl (fun w1 hw=>cells_get (hw.ok (Upd.mem .z)) 1 _ rfl)) ?_
  refine av rfl (r_len_sl underlying96 rfl) ?_
  refine av rfl (r_ineq rfl rfl) ?_
  refine aa rfl rfl ?_
  refine nwq [29,6,5,4,2] rfl ?_
  rcases oi hF with ⟨h23,hF⟩|⟨h23,hF⟩
  ·refine ct rfl h23 ?_
   refine sr ?_
   refine av rfl (r_build_struct (zs:=Cd.cs c_api_Item zv6) (cs:=Cd.cs c_api_Item zv6) underlying33 zeroValue33 rfl (places_api_Item_33) rfl rfl) ?_
   refine at_store (c:=c_api_Item) (z:=zv6) (.s (.s (.s (.s .z)))) (Lens.whole _ _) sizeOf33 rfl rfl rfl ?_
   refine aa rfl rfl ?_
   refine at_nil ?_
   refine dz ?_
   refine dz ?_
   refine dz ?_
   refine dz ?_
   refine wq [3,2] rfl ?_
   refine tn ?_
   refine at_ret ?_
   refine at_blk_ret (at_then_ret ?_)
   have hN24 : NK_api_Item (KZ w0 Z_) s_ zv6:=⟨RowK.nil ..,RowK.nil ..⟩
   have K:=of_some hF
   subst K
   exact at_res2 rfl (res_cell (c:=c_api_Item) (y:=zv6) rfl .z (Lens.whole _ _) isAgg33 sizeOf33 (.inl rfl)) (res_tmp rfl) (fun w1 hw=>⟨Z_,s_,zv5,hM_,rfl,hN24,hw.pop⟩)
  refine cf rfl h23 ?_
  refine at_skip ?_
  refine at_blk_normal (at_then_normal ?_)
  refine at_seq ?_
  refine sr ?_
  refine fa 1 underlying98 rfl rfl sizeOf96 rfl rfl ?_
  refine av rfl (r_load_cell isAgg96 rfl (fun w1 hw=>cells_get (hw.ok (Upd.mem .z)) 1 _ rfl)) ?_
  refine av rfl (r_len_sl underlying96 rfl) ?_
  refine am rfl rfl ?_
  refine at_nil ?_
  refine dz ?_
  refine wq [41,40,39,5,4,2] rfl ?_
  refine tn ?_
  refine at_block ?_
  refine wq [41,40,39,5,4,2] rfl ?_
  refine at_loop ?_
  refine at_round ?_
  refine sr ?_
  refine av rfl (r_ilss rfl rfl) ?_
  refine at_fix (g:=42) rfl (show (decide (0 < 1)) = true from by decide) ?_
  refine nwq [42,41,40,39,5,4,2] rfl ?_
  refine at_seq ?_
  refine ct rfl rfl ?_
  refine sn ?_
  refine at_seq ?_
  refine at_block ?_
  refine sr ?_
  refine am rfl rfl ?_
  refine av rfl (r_idx underlying96 sizeOf104 rfl rfl (by decide) rfl) ?_
  refine av rfl (r_load_agg (l:=zl11) isAgg104 sizeOf104 rfl rfl (fun w1 hw=>cells_mid (pre:=[]) (suf:=[]) (hw.ok (Upd.mem .z)) rfl rfl)) ?_
  refine at_alloc (cs:=zl20) zeroValue104 rfl rfl ?_
  intro b25
  refine aa rfl rfl ?_
  refine sa 3 (zl11) .z rfl rfl sizeOf104 rfl rfl rfl ?_
  refine nt ?_
  refine at_seq ?_
  refine wq [41,40,39,9,8,5,4,2] rfl ?_
  obtain ⟨h26,hF⟩:=of_guard hF
  refine at_pure (φ:=∃ b o,p4 = some ⟨b,o,none⟩) (fun _ hw=>row_ptr (hw.own (.s (.s (.s .z)))).row h26) ?_
  rintro ⟨b28,o29,hp27⟩
  refine at_invT [.q 46 (fun g30=>.pointer (some ⟨b25,0 + 1,none⟩)) [] 0 0,.q 47 (fun g30=>.func (.func 127) #[] #[]) [0] 0 0,.q 48 (fun g30=>.slice p4 t3.length c5) [] 0 0,.q 49 (fun g30=>.int .i64 0) [] 0 0,.q 50 (fun g30=>.int .i64 (wr .i64 (0 + 1))) [3] 0 0,.q 51 (fun g30=>.pointer (some ⟨b28,o29 + Int.toNat (wr .i64 (0 + 1)) * 1,none⟩)) [2,4] 0 0,.q 52 (fun g30=>.string (lget t3 (wr .i64 (0 + 1)))) [5] 0 0] (fun g30 s=>match s with | _=>(Wd w0 (cellsE b25 zl11 104::cellsE b21 zl11 104::cellsE b11 (Cd.cs c_api_Item (zv5,{ zv4 with f_Kind:=t10 })) 33::rowE cStr 9 p4 c5 t3::cellsE b1 (Cd.cs c_api_Item zv6) 33::frzE w0 Z_ s_::G_))) 0 7 (by kernel_rfl) (by kernel_rfl) (by kernel_rfl) (by kernel_rfl) (by kernel_rfl) (by kernel_rfl) ⟨fun _ _ _=>rfl,fun _ _ _=>rfl,fun _ _ _=>rfl,fun _ _ _=>rfl,fun _ _ _=>rfl,fun _ _ _=>rfl,fun _ _ _=>rfl,trivial⟩ (by kernel_rfl) (fun w_ h=>⟨fun _=>g3 0 none 0 none w_,h.drew⟩) ⟨?_,?_,?_,?_,?_,?_,?_,trivial⟩ ?_
  ·intro Lx g30 s K hl hh k
   show At 60 ((2,_)::(4,_)::(5,_)::(8,_)::(9,_)::(39,_)::(40,_)::(41,_)::Lx) _ _
   refine fa 1 underlying104 rfl rfl sizeOf101 rfl rfl ?_
   exact at_nil k
  ·intro Lx g30 s K hl hh k
   show At 60 ((46,_)::(2,_)::(4,_)::(5,_)::(8,_)::(9,_)::(39,_)::(40,_)::(41,_)::Lx) _ _
   obtain rfl : s = 0:=by omega
   refine av rfl (r_load_cell isAgg101 rfl (fun w1 hw=>cells_get (hw.ok (Upd.mem .z)) 1 _ rfl)) ?_
   exact at_nil k
  ·intro Lx g30 s K hl hh k
   show At 60 ((2,_)::(4,_)::(5,_)::(8,_)::(9,_)::(39,_)::(40,_)::(41,_)::Lx) _ _
   refine am rfl rfl ?_
   exact at_nil k
  ·intro Lx g30 s K hl hh k
   show At 60 ((2,_)::(4,_)::(5,_)::(8,_)::(9,_)::(39,_)::(40,_)::(41,_)::Lx) _ _
   refine am rfl rfl ?_
   exact at_nil k
  ·intro Lx g30 s K hl hh k
   show At 60 ((49,_)::(2,_)::(4,_)::(5,_)::(8,_)::(9,_)::(39,_)::(40,_)::(41,_)::Lx) _ _
   refine av rfl (r_iadd rfl rfl) ?_
   exact at_nil k
  ·intro Lx g30 s K hl hh k
   show At 60 ((48,_)::(50,_)::(2,_)::(4,_)::(5,_)::(8,_)::(9,_)::(39,_)::(40,_)::(41,_)::Lx) _ _
   refine av rfl (r_idx underlying38 sizeOf9 rfl rfl h26 hp27) ?_
   exact at_nil k
  ·intro Lx g30 s K hl hh k
   show At 60 ((51,_)::(2,_)::(4,_)::(5,_)::(8,_)::(9,_)::(39,_)::(40,_)::(41,_)::Lx) _ _
   obtain rfl : s = 0:=by omega
   refine av rfl (r_load_cell isAgg9 rfl (fun _ hw=>row_cell0 (W:=fun w1=>w1 = _) (fun w1 h=>by subst h; exact Below.refl _ _) (hw.own (.s (.s (.s .z)))).row h26 hp27 rfl _ rfl)) ?_
   exact at_nil k
  intro g30
  show At 60 [(46,_),(47,_),(48,_),(49,_),(50,_),(51,_),(52,_),(2,_),(4,_),(5,_),(8,_),(9,_),(39,_),(40,_),(41,_)] _ _
  refine at_callee rfl ?_
  refine at_callI func127 rfl (by kernel_rfl) rfl rfl rfl rfl ?_
  refine dz ?_
  refine sr ?_
  refine aa rfl rfl ?_
  refine ns ?_
  refine am rfl rfl ?_
  refine am rfl rfl ?_
  obtain ⟨t31,ht31,hF⟩:=of_bindM hF
  refine at_callO (c:=(cInt .u8)) (e:=5) (ys:=t31.1) (V:=fun p cap=>.tuple #[.slice p t31.1.length cap,.int .i64 t31.2]) func128 rfl (by kernel_rfl) rfl rfl (fun w hw=>script_unword_ok _ _ ht31 w) ?_
  intro p32 c33
  refine am rfl rfl ?_
  refine av rfl (r_extract rfl rfl) ?_
  refine av rfl (r_extract rfl rfl) ?_
  refine av rfl (r_nilCheck rfl) ?_
  refine fa 1 underlying33 rfl rfl sizeOf22 rfl rfl ?_
  refine at_store (c:=cSv Int) (z:=((p32,c33),t31.1)) (.s (.s .z)) (c_api_Item_f_Bytes_sv zv5 ({ zv4 with f_Kind:=t10 })) sizeOf22 rfl rfl rfl ?_
  refine aa rfl rfl ?_
  refine ns ?_
  refine am rfl rfl ?_
  refine aa rfl rfl ?_
  refine nwq [4] rfl ?_
  refine at_ret ?_
  refine at_retI1 rfl rfl ?_
  refine aa rfl rfl ?_
  refine ns ?_
  refine am rfl rfl ?_
  refine av rfl (r_ineq rfl rfl) ?_
  refine nwq [55,41,40,39,10,5,4,2] rfl ?_
  rcases oi hF with ⟨h34,hF⟩|⟨h34,hF⟩
  ·refine ct rfl h34 ?_
   refine sr ?_
   refine av rfl (r_build_struct (zs:=Cd.cs c_api_Item zv6) (cs:=Cd.cs c_api_Item zv6) underlying33 zeroValue33 rfl (places_api_Item_33) rfl rfl) ?_
   refine am rfl rfl ?_
   refine at_store (c:=c_api_Item) (z:=zv6) (.s (.s (.s (.s .z)))) (Lens.whole _ _) sizeOf33 rfl rfl rfl ?_
   refine aa rfl rfl ?_
   refine at_nil ?_
   refine dz ?_
   refine dz ?_
   refine dz ?_
   refine dz ?_
   refine wq [3,2] rfl ?_
   refine tn ?_
   refine at_ret ?_
   refine at_blk_ret (at_then_ret (at_then_ret (at_blk_ret (at_then_ret ?_))))
   have hN35 : NK_api_Item (KZ w0 Z_) s_ zv6:=⟨RowK.nil ..,RowK.nil ..⟩
   have K:=of_some hF
   subst K
   exact at_res2 rfl (res_cell (c:=c_api_Item) (y:=zv6) rfl .z (Lens.whole _ _) isAgg33 sizeOf33 (.inl rfl)) (res_tmp rfl) (fun w1 hw=>⟨Z_,s_,zv5,hM_,rfl,hN35,hw.pop⟩)
  refine cf rfl h34 ?_
  refine at_skip ?_
  refine at_blk_normal (at_then_normal ?_)
  refine at_region ?_
  refine av rfl (r_iadd rfl rfl) ?_
  refine at_ov (t:=58) rfl (show Value.int .i64 (wr .i64 (0 + 1)) = .int .i64 1 from by rfl) ?_
  refine am rfl rfl ?_
  refine nt ?_
  refine wq [41,40,39,5,4,2] rfl ?_
  refine at_round ?_
  refine sr ?_
  refine av rfl (r_ilss rfl rfl) ?_
  refine at_fix (g:=42) rfl (show (decide (1 < 1)) = false from by decide) ?_
  refine nwq [42,41,40,39,5,4,2] rfl ?_
  refine at_seq ?_
  refine cf rfl rfl ?_
  refine at_exit ?_
  refine at_then_exit (at_then_exit ?_)
  refine at_blk_same ?_
  refine at_drop (H:=_) (.s .z) ?_
  refine at_drop (H:=_) (.s (.s .z)) ?_
  refine tn ?_
  refine sr ?_
  refine av rfl (r_load_aggc (c:=c_api_Item) (z:=(((p32,c33),zv2),{ { zv4 with f_Kind:=t10 } with f_Bytes:=t31.1 })) isAgg33 sizeOf33 rfl (lens_cell (.s .z) (Lens.whole _ _))) ?_
  refine at_store (c:=c_api_Item) (z:=(((p32,c33),zv2),{ { zv4 with f_Kind:=t10 } with f_Bytes:=t31.1 })) (.s (.s .z)) (Lens.whole _ _) sizeOf33 rfl rfl rfl ?_
  refine aa rfl rfl ?_
  refine at_nil ?_
  refine at_drop (H:=_) (.s .z) ?_
  refine wq [3,2] rfl ?_
  refine tn ?_
  refine at_ret ?_
  refine at_freeze (.s .z) ?_
  intro Z_ s_ hm37 hk38
  replace hM_:=Mono.mono hM_ hm37
  have hN36 : NK_api_Item (KZ w0 Z_) s_ (((p32,c33),zv2),{ { zv4 with f_Kind:=t10 } with f_Bytes:=t31.1 }):=⟨hk38,RowK.nil ..⟩
  have K:=of_some hF
  subst K
  exact at_res2 rfl (res_cell (c:=c_api_Item) (y:=(((p32,c33),zv2),{ { zv4 with f_Kind:=t10 } with f_Bytes:=t31.1 })) rfl .z (Lens.whole _ _) isAgg33 sizeOf33 (.inl rfl)) (res_tmp rfl) (fun w1 hw=>⟨Z_,s_,((p32,c33),zv2),hM_,rfl,hN36,hw.pop⟩)
 refine cf rfl h19 ?_
 refine sr ?_
 refine av rfl (r_ieql rfl rfl) ?_
 refine aa rfl rfl ?_
 refine nwq [14,8,5,4,2] rfl ?_
 rcases oi hF with ⟨h39,hF⟩|⟨h39,hF⟩
 ·refine ct rfl h39 ?_
  refine sr ?_
  refine at_callI func78 rfl (by kernel_rfl) rfl rfl rfl rfl ?_
  refine dz ?_
  refine dz ?_
  refine dz ?_
  refine dz ?_
  refine at_weak [] trivial ?_
  refine sr ?_
  refine at_alloc (cs:=zl20) zeroValue104 rfl rfl ?_
  intro b40
  refine nwx [0] rfl ?_
  refine av rfl (r_build_struct (zs:=zl20) (cs:=zl11) underlying104 zeroValue104 rfl placesR_104 rfl rfl) ?_
  refine sa 3 (zl11) .z rfl rfl sizeOf104 rfl rfl rfl ?_
  refine nwq [0] rfl ?_
  refine at_ret ?_
  refine at_resI1 rfl (res_cell (c:=cK 3 (by decide)) (y:=ck 3 (zl11) rfl) rfl .z (Lens.whole _ _) isAgg104 sizeOf104 (.inl rfl)) ?_
  refine at_litG (cs:=zl11) underlying96 sizeOf104 zeroValue104 rfl rfl rfl (by kernel_rfl) rfl ?_
  intro b41
  refine av rfl (r_build_struct (zs:=zl19) (cs:=(zl15 b41)) underlying98 zeroValue98 rfl placesR_98 rfl rfl) ?_
  refine sa 2 ((zl15 b41)) (.s (.s .z)) rfl rfl sizeOf98 rfl rfl rfl ?_
  refine aa rfl rfl ?_
  refine at_nil ?_
  refine at_drop (H:=_) (.s .z) ?_
  refine wq [3,2] rfl ?_
  refine tn ?_
  refine at_ret ?_
  refine at_blk_ret (at_then_ret ?_)
  refine at_resI2 rfl (res_cell (c:=cK 2 (by decide)) (y:=ck 2 ((zl15 b41)) rfl) rfl (.s .z) (Lens.whole _ _) isAgg98 sizeOf98 (.inl rfl)) (res_tmp rfl) ?_
  refine am rfl rfl ?_
  refine av rfl (r_extract rfl rfl) ?_
  refine av rfl (r_extract rfl rfl) ?_
  refine at_alloc (cs:=zl19) zeroValue98 rfl rfl ?_
  intro b42
  refine sa 2 ((zl15 b41)) .z rfl rfl sizeOf98 rfl rfl rfl ?_
  refine aa rfl rfl ?_
  refine at_nil ?_
  refine at_drop (H:=_) (.s (.s .z)) ?_
  refine wq [7,6,5,4,2] rfl ?_
  refine tn ?_
  refine at_seq ?_
  refine at_block ?_
  refine sr ?_
  refine am rfl rfl ?_
  refine av rfl (r_not rfl) ?_
  refine aa rfl rfl ?_
  refine nwq [25,6,5,4,2] rfl ?_
  refine cf rfl rfl ?_
  refine sr ?_
  refine am rfl rfl ?_
  refine av rfl (r_len_sl underlying38 rfl) ?_
  refine av rfl (r_isub rfl rfl) ?_
  refine fa 1 underlying98 rfl rfl sizeOf96 rfl rfl ?_
  refine av rfl (r_load_cell isAgg96 rfl (fun w1 hw=>cells_get (hw.ok (Upd.mem .z)) 1 _ rfl)) ?_
  refine av rfl (r_len_sl underlying96 rfl) ?_
  refine av rfl (r_ineq rfl rfl) ?_
  refine aa rfl rfl ?_
  refine nwq [29,6,5,4,2] rfl ?_
  rcases oi hF with ⟨h43,hF⟩|⟨h43,hF⟩
  ·refine ct rfl h43 ?_
   refine sr ?_
   refine av rfl (r_build_struct (zs:=Cd.cs c_api_Item zv6) (cs:=Cd.cs c_api_Item zv6) underlying33 zeroValue33 rfl (places_api_Item_33) rfl rfl) ?_
   refine at_store (c:=c_api_Item) (z:=zv6) (.s (.s (.s (.s .z)))) (Lens.whole _ _) sizeOf33 rfl rfl rfl ?_
   refine aa rfl rfl ?_
   refine at_nil ?_
   refine dz ?_
   refine dz ?_
   refine dz ?_
   refine dz ?_
   refine wq [3,2] rfl ?_
   refine tn ?_
   refine at_ret ?_
   refine at_blk_ret (at_then_ret ?_)
   have hN44 : NK_api_Item (KZ w0 Z_) s_ zv6:=⟨RowK.nil ..,RowK.nil ..⟩
   have K:=of_some hF
   subst K
   exact at_res2 rfl (res_cell (c:=c_api_Item) (y:=zv6) rfl .z (Lens.whole _ _) isAgg33 sizeOf33 (.inl rfl)) (res_tmp rfl) (fun w1 hw=>⟨Z_,s_,zv5,hM_,rfl,hN44,hw.pop⟩)
  refine cf rfl h43 ?_
  refine at_skip ?_
  refine at_blk_normal (at_then_normal ?_)
  refine at_seq ?_
  refine sr ?_
  refine fa 1 underlying98 rfl rfl sizeOf96 rfl rfl ?_
  refine av rfl (r_load_cell isAgg96 rfl (fun w1 hw=>cells_get (hw.ok (Upd.mem .z)) 1 _ rfl)) ?_
  refine av rfl (r_len_sl underlying96 rfl) ?_
  refine am rfl rfl ?_
  refine at_nil ?_
  refine dz ?_
  refine wq [41,40,39,5,4,2] rfl ?_
  refine tn ?_
  refine at_block ?_
  refine wq [41,40,39,5,4,2] rfl ?_
  refine at_loop ?_
  refine at_round ?_
  refine sr ?_
  refine av rfl (r_ilss rfl rfl) ?_
  refine at_fix (g:=42) rfl (show (decide (0 < 1)) = true from by decide) ?_
  refine nwq [42,41,40,39,5,4,2] rfl ?_
  refine at_seq ?_
  refine ct rfl rfl ?_
  refine sn ?_
  refine at_seq ?_
  refine at_block ?_
  refine sr ?_
  refine am rfl rfl ?_
  refine av rfl (r_idx underlying96 sizeOf104 rfl rfl (by decide) rfl) ?_
  refine av rfl (r_load_agg (l:=zl11) isAgg104 sizeOf104 rfl rfl (fun w1 hw=>cells_mid (pre:=[]) (suf:=[]) (hw.ok (Upd.mem .z)) rfl rfl)) ?_
  refine at_alloc (cs:=zl20) zeroValue104 rfl rfl ?_
  intro b45
  refine aa rfl rfl ?_
  refine sa 3 (zl11) .z rfl rfl sizeOf104 rfl rfl rfl ?_
  refine nt ?_
  refine at_seq ?_
  refine wq [41,40,39,9,8,5,4,2] rfl ?_
  obtain ⟨h46,hF⟩:=of_guard hF
  refine at_pure (φ:=∃ b o,p4 = some ⟨b,o,none⟩) (fun _ hw=>row_ptr (hw.own (.s (.s (.s .z)))).row h46) ?_
  rintro ⟨b48,o49,hp47⟩
  refine at_invT [.q 46 (fun g50=>.pointer (some ⟨b45,0 + 1,none⟩)) [] 0 0,.q 47 (fun g50=>.func (.func 127) #[] #[]) [0] 0 0,.q 48 (fun g50=>.slice p4 t3.length c5) [] 0 0,.q 49 (fun g50=>.int .i64 0) [] 0 0,.q 50 (fun g50=>.int .i64 (wr .i64 (0 + 1))) [3] 0 0,.q 51 (fun g50=>.pointer (some ⟨b48,o49 + Int.toNat (wr .i64 (0 + 1)) * 1,none⟩)) [2,4] 0 0,.q 52 (fun g50=>.string (lget t3 (wr .i64 (0 + 1)))) [5] 0 0] (fun g50 s=>match s with | _=>(Wd w0 (cellsE b45 zl11 104::cellsE b41 zl11 104::cellsE b11 (Cd.cs c_api_Item (zv5,{ zv4 with f_Kind:=t10 })) 33::rowE cStr 9 p4 c5 t3::cellsE b1 (Cd.cs c_api_Item zv6) 33::frzE w0 Z_ s_::G_))) 0 7 (by kernel_rfl) (by kernel_rfl) (by kernel_rfl) (by kernel_rfl) (by kernel_rfl) (by kernel_rfl) ⟨fun _ _ _=>rfl,fun _ _ _=>rfl,fun _ _ _=>rfl,fun _ _ _=>rfl,fun _ _ _=>rfl,fun _ _ _=>rfl,fun _ _ _=>rfl,trivial⟩ (by kernel_rfl) (fun w_ h=>⟨fun _=>g3 0 none 0 none w_,h.drew⟩) ⟨?_,?_,?_,?_,?_,?_,?_,trivial⟩ ?_
  ·intro Lx g50 s K hl hh k
   show At 60 ((2,_)::(4,_)::(5,_)::(8,_)::(9,_)::(39,_)::(40,_)::(41,_)::Lx) _ _
   refine fa 1 underlying104 rfl rfl sizeOf101 rfl rfl ?_
   exact at_nil k
  ·intro Lx g50 s K hl hh k
   show At 60 ((46,_)::(2,_)::(4,_)::(5,_)::(8,_)::(9,_)::(39,_)::(40,_)::(41,_)::Lx) _ _
   obtain rfl : s = 0:=by omega
   refine av rfl (r_load_cell isAgg101 rfl (fun w1 hw=>cells_get (hw.ok (Upd.mem .z)) 1 _ rfl)) ?_
   exact at_nil k
  ·intro Lx g50 s K hl hh k
   show At 60 ((2,_)::(4,_)::(5,_)::(8,_)::(9,_)::(39,_)::(40,_)::(41,_)::Lx) _ _
   refine am rfl rfl ?_
   exact at_nil k
  ·intro Lx g50 s K hl hh k
   show At 60 ((2,_)::(4,_)::(5,_)::(8,_)::(9,_)::(39,_)::(40,_)::(41,_)::Lx) _ _
   refine am rfl rfl ?_
   exact at_nil k
  ·intro Lx g50 s K hl hh k
   show At 60 ((49,_)::(2,_)::(4,_)::(5,_)::(8,_)::(9,_)::(39,_)::(40,_)::(41,_)::Lx) _ _
   refine av rfl (r_iadd rfl rfl) ?_
   exact at_nil k
  ·intro Lx g50 s K hl hh k
   show At 60 ((48,_)::(50,_)::(2,_)::(4,_)::(5,_)::(8,_)::(9,_)::(39,_)::(40,_)::(41,_)::Lx) _ _
   refine av rfl (r_idx underlying38 sizeOf9 rfl rfl h46 hp47) ?_
   exact at_nil k
  ·intro Lx g50 s K hl hh k
   show At 60 ((51,_)::(2,_)::(4,_)::(5,_)::(8,_)::(9,_)::(39,_)::(40,_)::(41,_)::Lx) _ _
   obtain rfl : s = 0:=by omega
   refine av rfl (r_load_cell isAgg9 rfl (fun _ hw=>row_cell0 (W:=fun w1=>w1 = _) (fun w1 h=>by subst h; exact Below.refl _ _) (hw.own (.s (.s (.s .z)))).row h46 hp47 rfl _ rfl)) ?_
   exact at_nil k
  intro g50
  show At 60 [(46,_),(47,_),(48,_),(49,_),(50,_),(51,_),(52,_),(2,_),(4,_),(5,_),(8,_),(9,_),(39,_),(40,_),(41,_)] _ _
  refine at_callee rfl ?_
  refine at_callI func127 rfl (by kernel_rfl) rfl rfl rfl rfl ?_
  refine dz ?_
  refine sr ?_
  refine aa rfl rfl ?_
  refine ns ?_
  refine am rfl rfl ?_
  refine am rfl rfl ?_
  obtain ⟨t51,ht51,hF⟩:=of_bindM hF
  refine at_callO (c:=(cInt .u8)) (e:=5) (ys:=t51.1) (V:=fun p cap=>.tuple #[.slice p t51.1.length cap,.int .i64 t51.2]) func128 rfl (by kernel_rfl) rfl rfl (fun w hw=>script_unword_ok _ _ ht51 w) ?_
  intro p52 c53
  refine am rfl rfl ?_
  refine av rfl (r_extract rfl rfl) ?_
  refine av rfl (r_extract rfl rfl) ?_
  refine av rfl (r_nilCheck rfl) ?_
  refine fa 1 underlying33 rfl rfl sizeOf22 rfl rfl ?_
  refine at_store (c:=cSv Int) (z:=((p52,c53),t51.1)) (.s (.s .z)) (c_api_Item_f_Bytes_sv zv5 ({ zv4 with f_Kind:=t10 })) sizeOf22 rfl rfl rfl ?_
  refine aa rfl rfl ?_
  refine ns ?_
  refine am rfl rfl ?_
  refine aa rfl rfl ?_
  refine nwq [4] rfl ?_
  refine at_ret ?_
  refine at_retI1 rfl rfl ?_
  refine aa rfl rfl ?_
  refine ns ?_
  refine am rfl rfl ?_
  refine av rfl (r_ineq rfl rfl) ?_
  refine nwq [55,41,40,39,10,5,4,2] rfl ?_
  rcases oi hF with ⟨h54,hF⟩|⟨h54,hF⟩
  ·refine ct rfl h54 ?_
   refine sr ?_
   refine av rfl (r_build_struct (zs:=Cd.cs c_api_Item zv6) (cs:=Cd.cs c_api_Item zv6) underlying33 zeroValue33 rfl (places_api_Item_33) rfl rfl) ?_
   refine am rfl rfl ?_
   refine at_store (c:=c_api_Item) (z:=zv6) (.s (.s (.s (.s .z)))) (Lens.whole _ _) sizeOf33 rfl rfl rfl ?_
   refine aa rfl rfl ?_
   refine at_nil ?_
   refine dz ?_
   refine dz ?_
   refine dz ?_
   refine dz ?_
   refine wq [3,2] rfl ?_
   refine tn ?_
   refine at_ret ?_
   refine at_blk_ret (at_then_ret (at_then_ret (at_blk_ret (at_then_ret ?_))))
   have hN55 : NK_api_Item (KZ w0 Z_) s_ zv6:=⟨RowK.nil ..,RowK.nil ..⟩
   have K:=of_some hF
   subst K
   exact at_res2 rfl (res_cell (c:=c_api_Item) (y:=zv6) rfl .z (Lens.whole _ _) isAgg33 sizeOf33 (.inl rfl)) (res_tmp rfl) (fun w1 hw=>⟨Z_,s_,zv5,hM_,rfl,hN55,hw.pop⟩)
  refine cf rfl h54 ?_
  refine at_skip ?_
  refine at_blk_normal (at_then_normal ?_)
  refine at_region ?_
  refine av rfl (r_iadd rfl rfl) ?_
  refine at_ov (t:=58) rfl (show Value.int .i64 (wr .i64 (0 + 1)) = .int .i64 1 from by rfl) ?_
  refine am rfl rfl ?_
  refine nt ?_
  refine wq [41,40,39,5,4,2] rfl ?_
  refine at_round ?_
  refine sr ?_
  refine av rfl (r_ilss rfl rfl) ?_
  refine at_fix (g:=42) rfl (show (decide (1 < 1)) = false from by decide) ?_
  refine nwq [42,41,40,39,5,4,2] rfl ?_
  refine at_seq ?_
  refine cf rfl rfl ?_
  refine at_exit ?_
  refine at_then_exit (at_then_exit ?_)
  refine at_blk_same ?_
  refine at_drop (H:=_) (.s .z) ?_
  refine at_drop (H:=_) (.s (.s .z)) ?_
  refine tn ?_
  refine sr ?_
  refine av rfl (r_load_aggc (c:=c_api_Item) (z:=(((p52,c53),zv2),{ { zv4 with f_Kind:=t10 } with f_Bytes:=t51.1 })) isAgg33 sizeOf33 rfl (lens_cell (.s .z) (Lens.whole _ _))) ?_
  refine at_store (c:=c_api_Item) (z:=(((p52,c53),zv2),{ { zv4 with f_Kind:=t10 } with f_Bytes:=t51.1 })) (.s (.s .z)) (Lens.whole _ _) sizeOf33 rfl rfl rfl ?_
  refine aa rfl rfl ?_
  refine at_nil ?_
  refine at_drop (H:=_) (.s .z) ?_
  refine wq [3,2] rfl ?_
  refine tn ?_
  refine at_ret ?_
  refine at_freeze (.s .z) ?_
  intro Z_ s_ hm57 hk58
  replace hM_:=Mono.mono hM_ hm57
  have hN56 : NK_api_Item (KZ w0 Z_) s_ (((p52,c53),zv2),{ { zv4 with f_Kind:=t10 } with f_Bytes:=t51.1 }):=⟨hk58,RowK.nil ..⟩
  have K:=of_some hF
  subst K
  exact at_res2 rfl (res_cell (c:=c_api_Item) (y:=(((p52,c53),zv2),{ { zv4 with f_Kind:=t10 } with f_Bytes:=t51.1 })) rfl .z (Lens.whole _ _) isAgg33 sizeOf33 (.inl rfl)) (res_tmp rfl) (fun w1 hw=>⟨Z_,s_,((p52,c53),zv2),hM_,rfl,hN56,hw.pop⟩)
 refine cf rfl h39 ?_
 refine sr ?_
 refine av rfl (r_ieql rfl rfl) ?_
 refine aa rfl rfl ?_
 refine nwq [19,8,5,4,2] rfl ?_
 rcases oi hF with ⟨h59,hF⟩|⟨h59,hF⟩
 ·refine ct rfl h59 ?_
  refine sr ?_
  refine at_callI func78 rfl (by kernel_rfl) rfl rfl rfl rfl ?_
  refine dz ?_
  refine dz ?_
  refine dz ?_
  refine dz ?_
  refine at_weak [] trivial ?_
  refine sr ?_
  refine at_alloc (cs:=zl20) zeroValue104 rfl rfl ?_
  intro b60
  refine nwx [0] rfl ?_
  refine av rfl (r_build_struct (zs:=zl20) (cs:=zl11) underlying104 zeroValue104 rfl placesR_104 rfl rfl) ?_
  refine sa 3 (zl11) .z rfl rfl sizeOf104 rfl rfl rfl ?_
  refine nwq [0] rfl ?_
  refine at_ret ?_
  refine at_resI1 rfl (res_cell (c:=cK 3 (by decide)) (y:=ck 3 (zl11) rfl) rfl .z (Lens.whole _ _) isAgg104 sizeOf104 (.inl rfl)) ?_
  refine at_callI func79 rfl (by kernel_rfl) rfl rfl rfl rfl ?_
  refine dz ?_
  refine at_weak [] trivial ?_
  refine sr ?_
  refine at_alloc (cs:=zl20) zeroValue104 rfl rfl ?_
  intro b61
  refine nwx [0] rfl ?_
  refine av rfl (r_build_struct (zs:=zl20) (cs:=zl12) underlying104 zeroValue104 rfl placesR_104 rfl rfl) ?_
  refine sa 3 (zl12) .z rfl rfl sizeOf104 rfl rfl rfl ?_
  refine nwq [0] rfl ?_
  refine at_ret ?_
  refine at_resI1 rfl (res_cell (c:=cK 3 (by decide)) (y:=ck 3 (zl12) rfl) rfl .z (Lens.whole _ _) isAgg104 sizeOf104 (.inl rfl)) ?_
  refine at_litG (cs:=zl7) underlying96 sizeOf104 zeroValue104 rfl rfl rfl (by kernel_rfl) rfl ?_
  intro b62
  refine av rfl (r_build_struct (zs:=zl19) (cs:=(zl17 b62)) underlying98 zeroValue98 rfl placesR_98 rfl rfl) ?_
  refine sa 2 ((zl17 b62)) (.s (.s .z)) rfl rfl sizeOf98 rfl rfl rfl ?_
  refine aa rfl rfl ?_
  refine at_nil ?_
  refine at_drop (H:=_) (.s .z) ?_
  refine wq [3,2] rfl ?_
  refine tn ?_
  refine at_ret ?_
  refine at_blk_ret (at_then_ret ?_)
  refine at_resI2 rfl (res_cell (c:=cK 2 (by decide)) (y:=ck 2 ((zl17 b62)) rfl) rfl (.s .z) (Lens.whole _ _) isAgg98 sizeOf98 (.inl rfl)) (res_tmp rfl) ?_
  refine am rfl rfl ?_
  refine av rfl (r_extract rfl rfl) ?_
  refine av rfl (r_extract rfl rfl) ?_
  refine at_alloc (cs:=zl19) zeroValue98 rfl rfl ?_
  intro b63
  refine sa 2 ((zl17 b62)) .z rfl rfl sizeOf98 rfl rfl rfl ?_
  refine aa rfl rfl ?_
  refine at_nil ?_
  refine at_drop (H:=_) (.s (.s .z)) ?_
  refine wq [7,6,5,4,2] rfl ?_
  refine tn ?_
  refine at_seq ?_
  refine at_block ?_
  refine sr ?_
  refine am rfl rfl ?_
  refine av rfl (r_not rfl) ?_
  refine aa rfl rfl ?_
  refine nwq [25,6,5,4,2] rfl ?_
  refine cf rfl rfl ?_
  refine sr ?_
  refine am rfl rfl ?_
  refine av rfl (r_len_sl underlying38 rfl) ?_
  refine av rfl (r_isub rfl rfl) ?_
  refine fa 1 underlying98 rfl rfl sizeOf96 rfl rfl ?_
  refine av rfl (r_load_cell isAgg96 rfl (fun w1 hw=>cells_get (hw.ok (Upd.mem .z)) 1 _ rfl)) ?_
  refine av rfl (r_len_sl underlying96 rfl) ?_
  refine av rfl (r_ineq rfl rfl) ?_
  refine aa rfl rfl ?_
  refine nwq [29,6,5,4,2] rfl ?_
  rcases oi hF with ⟨h64,hF⟩|⟨h64,hF⟩
  ·refine ct rfl h64 ?_
   refine sr ?_
   refine av rfl (r_build_struct (zs:=Cd.cs c_api_Item zv6) (cs:=Cd.cs c_api_Item zv6) underlying33 zeroValue33 rfl (places_api_Item_33) rfl rfl) ?_
   refine at_store (c:=c_api_Item) (z:=zv6) (.s (.s (.s (.s .z)))) (Lens.whole _ _) sizeOf33 rfl rfl rfl ?_
   refine aa rfl rfl ?_
   refine at_nil ?_
   refine dz ?_
   refine dz ?_
   refine dz ?_
   refine dz ?_
   refine wq [3,2] rfl ?_
   refine tn ?_
   refine at_ret ?_
   refine at_blk_ret (at_then_ret ?_)
   have hN65 : NK_api_Item (KZ w0 Z_) s_ zv6:=⟨RowK.nil ..,RowK.nil ..⟩
   have K:=of_some hF
   subst K
   exact at_res2 rfl (res_cell (c:=c_api_Item) (y:=zv6) rfl .z (Lens.whole _ _) isAgg33 sizeOf33 (.inl rfl)) (res_tmp rfl) (fun w1 hw=>⟨Z_,s_,zv5,hM_,rfl,hN65,hw.pop⟩)
  refine cf rfl h64 ?_
  refine at_skip ?_
  refine at_blk_normal (at_then_normal ?_)
  refine at_seq ?_
  refine sr ?_
  refine fa 1 underlying98 rfl rfl sizeOf96 rfl rfl ?_
  refine av rfl (r_load_cell isAgg96 rfl (fun w1 hw=>cells_get (hw.ok (Upd.mem .z)) 1 _ rfl)) ?_
  refine av rfl (r_len_sl underlying96 rfl) ?_
  refine am rfl rfl ?_
  refine at_nil ?_
  refine dz ?_
  refine wq [41,40,39,5,4,2] rfl ?_
  refine tn ?_
  refine at_block ?_
  refine wq [41,40,39,5,4,2] rfl ?_
  refine at_loop ?_
  refine at_round ?_
  refine sr ?_
  refine av rfl (r_ilss rfl rfl) ?_
  refine at_fix (g:=42) rfl (show (decide (0 < 2)) = true from by decide) ?_
  refine nwq [42,41,40,39,5,4,2] rfl ?_
  refine at_seq ?_
  refine ct rfl rfl ?_
  refine sn ?_
  refine at_seq ?_
  refine at_block ?_
  refine sr ?_
  refine am rfl rfl ?_
  refine av rfl (r_idx underlying96 sizeOf104 rfl rfl (by decide) rfl) ?_
  refine av rfl (r_load_agg (l:=zl11) isAgg104 sizeOf104 rfl rfl (fun w1 hw=>cells_mid (pre:=[]) (suf:=zl12) (hw.ok (Upd.mem .z)) rfl rfl)) ?_
  refine at_alloc (cs:=zl20) zeroValue104 rfl rfl ?_
  intro b66
  refine aa rfl rfl ?_
  refine sa 3 (zl11) .z rfl rfl sizeOf104 rfl rfl rfl ?_
  refine nt ?_
  refine at_seq ?_
  refine wq [41,40,39,9,8,5,4,2] rfl ?_
  obtain ⟨h67,hF⟩:=of_guard hF
  refine at_pure (φ:=∃ b o,p4 = some ⟨b,o,none⟩) (fun _ hw=>row_ptr (hw.own (.s (.s (.s .z)))).row h67) ?_
  rintro ⟨b69,o70,hp68⟩
  refine at_invT [.q 46 (fun g71=>.pointer (some ⟨b66,0 + 1,none⟩)) [] 0 0,.q 47 (fun g71=>.func (.func 127) #[] #[]) [0] 0 0,.q 48 (fun g71=>.slice p4 t3.length c5) [] 0 0,.q 49 (fun g71=>.int .i64 0) [] 0 0,.q 50 (fun g71=>.int .i64 (wr .i64 (0 + 1))) [3] 0 0,.q 51 (fun g71=>.pointer (some ⟨b69,o70 + Int.toNat (wr .i64 (0 + 1)) * 1,none⟩)) [2,4] 0 0,.q 52 (fun g71=>.string (lget t3 (wr .i64 (0 + 1)))) [5] 0 0] (fun g71 s=>match s with | _=>(Wd w0 (cellsE b66 zl11 104::cellsE b62 zl7 104::cellsE b11 (Cd.cs c_api_Item (zv5,{ zv4 with f_Kind:=t10 })) 33::rowE cStr 9 p4 c5 t3::cellsE b1 (Cd.cs c_api_Item zv6) 33::frzE w0 Z_ s_::G_))) 0 7 (by kernel_rfl) (by kernel_rfl) (by kernel_rfl) (by kernel_rfl) (by kernel_rfl) (by kernel_rfl) ⟨fun _ _ _=>rfl,fun _ _ _=>rfl,fun _ _ _=>rfl,fun _ _ _=>rfl,fun _ _ _=>rfl,fun _ _ _=>rfl,fun _ _ _=>rfl,trivial⟩ (by kernel_rfl) (fun w_ h=>⟨fun _=>g3 0 none 0 none w_,h.drew⟩) ⟨?_,?_,?_,?_,?_,?_,?_,trivial⟩ ?_
  ·intro Lx g71 s K hl hh k
   show At 60 ((2,_)::(4,_)::(5,_)::(8,_)::(9,_)::(39,_)::(40,_)::(41,_)::Lx) _ _
   refine fa 1 underlying104 rfl rfl sizeOf101 rfl rfl ?_
   exact at_nil k
  ·intro Lx g71 s K hl hh k
   show At 60 ((46,_)::(2,_)::(4,_)::(5,_)::(8,_)::(9,_)::(39,_)::(40,_)::(41,_)::Lx) _ _
   obtain rfl : s = 0:=by omega
   refine av rfl (r_load_cell isAgg101 rfl (fun w1 hw=>cells_get (hw.ok (Upd.mem .z)) 1 _ rfl)) ?_
   exact at_nil k
  ·intro Lx g71 s K hl hh k
   show At 60 ((2,_)::(4,_)::(5,_)::(8,_)::(9,_)::(39,_)::(40,_)::(41,_)::Lx) _ _
   refine am rfl rfl ?_
   exact at_nil k
  ·intro Lx g71 s K hl hh k
   show At 60 ((2,_)::(4,_)::(5,_)::(8,_)::(9,_)::(39,_)::(40,_)::(41,_)::Lx) _ _
   refine am rfl rfl ?_
   exact at_nil k
  ·intro Lx g71 s K hl hh k
   show At 60 ((49,_)::(2,_)::(4,_)::(5,_)::(8,_)::(9,_)::(39,_)::(40,_)::(41,_)::Lx) _ _
   refine av rfl (r_iadd rfl rfl) ?_
   exact at_nil k
  ·intro Lx g71 s K hl hh k
   show At 60 ((48,_)::(50,_)::(2,_)::(4,_)::(5,_)::(8,_)::(9,_)::(39,_)::(40,_)::(41,_)::Lx) _ _
   refine av rfl (r_idx underlying38 sizeOf9 rfl rfl h67 hp68) ?_
   exact at_nil k
  ·intro Lx g71 s K hl hh k
   show At 60 ((51,_)::(2,_)::(4,_)::(5,_)::(8,_)::(9,_)::(39,_)::(40,_)::(41,_)::Lx) _ _
   obtain rfl : s = 0:=by omega
   refine av rfl (r_load_cell isAgg9 rfl (fun _ hw=>row_cell0 (W:=fun w1=>w1 = _) (fun w1 h=>by subst h; exact Below.refl _ _) (hw.own (.s (.s (.s .z)))).row h67 hp68 rfl _ rfl)) ?_
   exact at_nil k
  intro g71
  show At 60 [(46,_),(47,_),(48,_),(49,_),(50,_),(51,_),(52,_),(2,_),(4,_),(5,_),(8,_),(9,_),(39,_),(40,_),(41,_)] _ _
  refine at_callee rfl ?_
  refine at_callI func127 rfl (by kernel_rfl) rfl rfl rfl rfl ?_
  refine dz ?_
  refine sr ?_
  refine aa rfl rfl ?_
  refine ns ?_
  refine am rfl rfl ?_
  refine am rfl rfl ?_
  obtain ⟨t72,ht72,hF⟩:=of_bindM hF
  refine at_callO (c:=(cInt .u8)) (e:=5) (ys:=t72.1) (V:=fun p cap=>.tuple #[.slice p t72.1.length cap,.int .i64 t72.2]) func128 rfl (by kernel_rfl) rfl rfl (fun w hw=>script_unword_ok _ _ ht72 w) ?_
  intro p73 c74
  refine am rfl rfl ?_
  refine av rfl (r_extract rfl rfl) ?_
  refine av rfl (r_extract rfl rfl) ?_
  refine av rfl (r_nilCheck rfl) ?_
  refine fa 1 underlying33 rfl rfl sizeOf22 rfl rfl ?_
  refine at_store (c:=cSv Int) (z:=((p73,c74),t72.1)) (.s (.s .z)) (c_api_Item_f_Bytes_sv zv5 ({ zv4 with f_Kind:=t10 })) sizeOf22 rfl rfl rfl ?_
  refine aa rfl rfl ?_
  refine ns ?_
  refine am rfl rfl ?_
  refine aa rfl rfl ?_
  refine nwq [4] rfl ?_
  refine at_ret ?_
  refine at_retI1 rfl rfl ?_
  refine aa rfl rfl ?_
  refine ns ?_
  refine am rfl rfl ?_
  refine av rfl (r_ineq rfl rfl) ?_
  refine nwq [55,41,40,39,10,5,4,2] rfl ?_
  rcases oi hF with ⟨h75,hF⟩|⟨h75,hF⟩
  ·refine ct rfl h75 ?_
   refine sr ?_
   refine av rfl (r_build_struct (zs:=Cd.cs c_api_Item zv6) (cs:=Cd.cs c_api_Item zv6) underlying33 zeroValue33 rfl (places_api_Item_33) rfl rfl) ?_
   refine am rfl rfl ?_
   refine at_store (c:=c_api_Item) (z:=zv6) (.s (.s (.s (.s .z)))) (Lens.whole _ _) sizeOf33 rfl rfl rfl ?_
   refine aa rfl rfl ?_
   refine at_nil ?_
   refine dz ?_
   refine dz ?_
   refine dz ?_
   refine dz ?_
   refine wq [3,2] rfl ?_
   refine tn ?_
   refine at_ret ?_
   refine at_blk_ret (at_then_ret (at_then_ret (at_blk_ret (at_then_ret ?_))))
   have hN76 : NK_api_Item (KZ w0 Z_) s_ zv6:=⟨RowK.nil ..,RowK.nil ..⟩
   have K:=of_some hF
   subst K
   exact at_res2 rfl (res_cell (c:=c_api_Item) (y:=zv6) rfl .z (Lens.whole _ _) isAgg33 sizeOf33 (.inl rfl)) (res_tmp rfl) (fun w1 hw=>⟨Z_,s_,zv5,hM_,rfl,hN76,hw.pop⟩)
  refine cf rfl h75 ?_
  refine at_skip ?_
  refine at_blk_normal (at_then_normal ?_)
  refine at_region ?_
  refine av rfl (r_iadd rfl rfl) ?_
  refine at_ov (t:=58) rfl (show Value.int .i64 (wr .i64 (0 + 1)) = .int .i64 1 from by rfl) ?_
  refine am rfl rfl ?_
  refine nt ?_
  refine wq [41,40,39,5,4,2] rfl ?_
  refine at_round ?_
  refine sr ?_
  refine av rfl (r_ilss rfl rfl) ?_
  refine at_fix (g:=42) rfl (show (decide (1 < 2)) = true from by decide) ?_
  refine nwq [42,41,40,39,5,4,2] rfl ?_
  refine at_seq ?_
  refine ct rfl rfl ?_
  refine sn ?_
  refine at_seq ?_
  refine at_block ?_
  refine sr ?_
  refine am rfl rfl ?_
  refine av rfl (r_idx underlying96 sizeOf104 rfl rfl (by decide) rfl) ?_
  refine av rfl (r_load_agg (l:=zl12) isAgg104 sizeOf104 rfl rfl (fun w1 hw=>cells_mid (pre:=zl11) (suf:=[]) (hw.ok (Upd.mem (.s .z))) rfl rfl)) ?_
  refine at_alloc (cs:=zl20) zeroValue104 rfl rfl ?_
  intro b77
  refine aa rfl rfl ?_
  refine sa 3 (zl12) .z rfl rfl sizeOf104 rfl rfl rfl ?_
  refine nt ?_
  refine at_seq ?_
  refine wq [41,40,39,9,8,5,4,2] rfl ?_
  obtain ⟨h78,hF⟩:=of_guard hF
  refine at_pure (φ:=∃ b o,p4 = some ⟨b,o,none⟩) (fun _ hw=>row_ptr (hw.own (.s (.s (.s (.s .z))))).row h78) ?_
  rintro ⟨b80,o81,hp79⟩
  refine at_invT [.q 46 (fun g82=>.pointer (some ⟨b77,0 + 1,none⟩)) [] 0 0,.q 47 (fun g82=>.func (.func 131) #[] #[]) [0] 0 0,.q 48 (fun g82=>.slice p4 t3.length c5) [] 0 0,.q 49 (fun g82=>.int .i64 1) [] 0 0,.q 50 (fun g82=>.int .i64 (wr .i64 (1 + 1))) [3] 0 0,.q 51 (fun g82=>.pointer (some ⟨b80,o81 + Int.toNat (wr .i64 (1 + 1)) * 1,none⟩)) [2,4] 0 0,.q 52 (fun g82=>.string (lget t3 (wr .i64 (1 + 1)))) [5] 0 0] (fun g82 s=>match s with | _=>(Wd w0 (cellsE b77 zl12 104::rowE (cInt .u8) 5 p73 c74 t72.1::cellsE b62 zl7 104::cellsE b11 (Cd.cs c_api_Item (((p73,c74),zv2),{ { zv4 with f_Kind:=t10 } with f_Bytes:=t72.1 })) 33::rowE cStr 9 p4 c5 t3::cellsE b1 (Cd.cs c_api_Item zv6) 33::frzE w0 Z_ s_::G_))) 0 7 (by kernel_rfl) (by kernel_rfl) (by kernel_rfl) (by kernel_rfl) (by kernel_rfl) (by kernel_rfl) ⟨fun _ _ _=>rfl,fun _ _ _=>rfl,fun _ _ _=>rfl,fun _ _ _=>rfl,fun _ _ _=>rfl,fun _ _ _=>rfl,fun _ _ _=>rfl,trivial⟩ (by kernel_rfl) (fun w_ h=>⟨fun _=>g3 0 none 0 none w_,h.drew⟩) ⟨?_,?_,?_,?_,?_,?_,?_,trivial⟩ ?_
  ·intro Lx g82 s K hl hh k
   show At 60 ((2,_)::(4,_)::(5,_)::(8,_)::(9,_)::(39,_)::(40,_)::(41,_)::Lx) _ _
   refine fa 1 underlying104 rfl rfl sizeOf101 rfl rfl ?_
   exact at_nil k
  ·intro Lx g82 s K hl hh k
   show At 60 ((46,_)::(2,_)::(4,_)::(5,_)::(8,_)::(9,_)::(39,_)::(40,_)::(41,_)::Lx) _ _
   obtain rfl : s = 0:=by omega
   refine av rfl (r_load_cell isAgg101 rfl (fun w1 hw=>cells_get (hw.ok (Upd.mem .z)) 1 _ rfl)) ?_
   exact at_nil k
  ·intro Lx g82 s K hl hh k
   show At 60 ((2,_)::(4,_)::(5,_)::(8,_)::(9,_)::(39,_)::(40,_)::(41,_)::Lx) _ _
   refine am rfl rfl ?_
   exact at_nil k
  ·intro Lx g82 s K hl hh k
   show At 60 ((2,_)::(4,_)::(5,_)::(8,_)::(9,_)::(39,_)::(40,_)::(41,_)::Lx) _ _
   refine am rfl rfl ?_
   exact at_nil k
  ·intro Lx g82 s K hl hh k
   show At 60 ((49,_)::(2,_)::(4,_)::(5,_)::(8,_)::(9,_)::(39,_)::(40,_)::(41,_)::Lx) _ _
   refine av rfl (r_iadd rfl rfl) ?_
   exact at_nil k
  ·intro Lx g82 s K hl hh k
   show At 60 ((48,_)::(50,_)::(2,_)::(4,_)::(5,_)::(8,_)::(9,_)::(39,_)::(40,_)::(41,_)::Lx) _ _
   refine av rfl (r_idx underlying38 sizeOf9 rfl rfl h78 hp79) ?_
   exact at_nil k
  ·intro Lx g82 s K hl hh k
   show At 60 ((51,_)::(2,_)::(4,_)::(5,_)::(8,_)::(9,_)::(39,_)::(40,_)::(41,_)::Lx) _ _
   obtain rfl : s = 0:=by omega
   refine av rfl (r_load_cell isAgg9 rfl (fun _ hw=>row_cell0 (W:=fun w1=>w1 = _) (fun w1 h=>by subst h; exact Below.refl _ _) (hw.own (.s (.s (.s (.s .z))))).row h78 hp79 rfl _ rfl)) ?_
   exact at_nil k
  intro g82
  show At 60 [(46,_),(47,_),(48,_),(49,_),(50,_),(51,_),(52,_),(2,_),(4,_),(5,_),(8,_),(9,_),(39,_),(40,_),(41,_)] _ _
  refine at_callee rfl ?_
  refine at_callI func131 rfl (by kernel_rfl) rfl rfl rfl rfl ?_
  refine dz ?_
  refine sr ?_
  refine aa rfl rfl ?_
  refine nt ?_
  refine at_seq ?_
  refine sr ?_
  refine am rfl rfl ?_
  refine av rfl (r_seql rfl rfl) ?_
  refine nwq [6,1,0] rfl ?_
  rcases oi hF with ⟨h83,hF⟩|⟨h83,hF⟩
  ·refine ct rfl h83 ?_
   refine sr ?_
   refine aa rfl rfl ?_
   refine nwq [4] rfl ?_
   refine rt ?_
   refine at_retI1 rfl rfl ?_
   refine aa rfl rfl ?_
   refine nwx [41,40,39,10,5,4,2] rfl ?_
   refine am rfl rfl ?_
   refine av rfl (r_ineq rfl rfl) ?_
   refine at_fix (g:=55) rfl (show (0 != 0) = false from by decide) ?_
   refine nwq [55,41,40,39,10,5,4,2] rfl ?_
   refine cf rfl rfl ?_
   refine at_skip ?_
   refine at_blk_normal (at_then_normal ?_)
   refine at_region ?_
   refine av rfl (r_iadd rfl rfl) ?_
   refine at_ov (t:=58) rfl (show Value.int .i64 (wr .i64 (1 + 1)) = .int .i64 2 from by rfl) ?_
   refine am rfl rfl ?_
   refine nt ?_
   refine wq [41,40,39,5,4,2] rfl ?_
   refine at_round ?_
   refine sr ?_
   refine av rfl (r_ilss rfl rfl) ?_
   refine at_fix (g:=42) rfl (show (decide (2 < 2)) = false from by decide) ?_
   refine nwq [42,41,40,39,5,4,2] rfl ?_
   refine at_seq ?_
   refine cf rfl rfl ?_
   refine at_exit ?_
   refine at_then_exit (at_then_exit ?_)
   refine at_blk_same ?_
   refine at_drop (H:=_) (.s .z) ?_
   refine at_drop (H:=_) (.s (.s .z)) ?_
   refine tn ?_
   refine sr ?_
   refine av rfl (r_load_aggc (c:=c_api_Item) (z:=(((p73,c74),zv2),{ { zv4 with f_Kind:=t10 } with f_Bytes:=t72.1 })) isAgg33 sizeOf33 rfl (lens_cell (.s .z) (Lens.whole _ _))) ?_
   refine at_store (c:=c_api_Item) (z:=(((p73,c74),zv2),{ { zv4 with f_Kind:=t10 } with f_Bytes:=t72.1 })) (.s (.s .z)) (Lens.whole _ _) sizeOf33 rfl rfl rfl ?_
   refine aa rfl rfl ?_
   refine at_nil ?_
   refine at_drop (H:=_) (.s .z) ?_
   refine wq [3,2] rfl ?_
   refine tn ?_
   refine at_ret ?_
   refine at_freeze (.s .z) ?_
   intro Z_ s_ hm85 hk86
   replace hM_:=Mono.mono hM_ hm85
   have hN84 : NK_api_Item (KZ w0 Z_) s_ (((p73,c74),zv2),{ { zv4 with f_Kind:=t10 } with f_Bytes:=t72.1 }):=⟨hk86,RowK.nil ..⟩
   have K:=of_some hF
   subst K
   exact at_res2 rfl (res_cell (c:=c_api_Item) (y:=(((p73,c74),zv2),{ { zv4 with f_Kind:=t10 } with f_Bytes:=t72.1 })) rfl .z (Lens.whole _ _) isAgg33 sizeOf33 (.inl rfl)) (res_tmp rfl) (fun w1 hw=>⟨Z_,s_,((p73,c74),zv2),hM_,rfl,hN84,hw.pop⟩)
  refine cf rfl h83 ?_
  refine sns ?_
  refine am rfl rfl ?_
  refine av rfl (r_nilCheck rfl) ?_
  refine fa 21 underlying33 rfl rfl sizeOf4 rfl rfl ?_
  refine at_store (c:=cBool) (z:=true) (.s (.s .z)) (c_api_Item_f_Ok ((p73,c74),zv2) ({ { zv4 with f_Kind:=t10 } with f_Bytes:=t72.1 })) sizeOf4 rfl rfl rfl ?_
  refine ns ?_
  refine am rfl rfl ?_
  refine am rfl rfl ?_
  obtain ⟨t87,ht87,hF⟩:=of_bindM hF
  refine at_callO (c:=(cInt .u8)) (e:=5) (ys:=t87.1) (V:=fun p cap=>.tuple #[.slice p t87.1.length cap,.int .i64 t87.2]) func128 rfl (by kernel_rfl) rfl rfl (fun w hw=>script_unword_ok _ _ ht87 w) ?_
  intro p88 c89
  refine am rfl rfl ?_
  refine av rfl (r_extract rfl rfl) ?_
  refine av rfl (r_extract rfl rfl) ?_
  refine av rfl (r_nilCheck rfl) ?_
  refine fa 20 underlying33 rfl rfl sizeOf22 rfl rfl ?_
  refine at_store (c:=cSv Int) (z:=((p88,c89),t87.1)) (.s (.s (.s .z))) (c_api_Item_f_Result_sv ((p73,c74),zv2) ({ { { zv4 with f_Kind:=t10 } with f_Bytes:=t72.1 } with f_Ok:=true })) sizeOf22 rfl rfl rfl ?_
  refine aa rfl rfl ?_
  refine ns ?_
  refine am rfl rfl ?_
  refine aa rfl rfl ?_
  refine nwq [4] rfl ?_
  refine at_ret ?_
  refine at_retI1 rfl rfl ?_
  refine aa rfl rfl ?_
  refine ns ?_
  refine am rfl rfl ?_
  refine av rfl (r_ineq rfl rfl) ?_
  refine nwq [55,41,40,39,10,5,4,2] rfl ?_
  rcases oi hF with ⟨h90,hF⟩|⟨h90,hF⟩
  ·refine ct rfl h90 ?_
   refine sr ?_
   refine av rfl (r_build_struct (zs:=Cd.cs c_api_Item zv6) (cs:=Cd.cs c_api_Item zv6) underlying33 zeroValue33 rfl (places_api_Item_33) rfl rfl) ?_
   refine am rfl rfl ?_
   refine at_store (c:=c_api_Item) (z:=zv6) (.s (.s (.s (.s (.s .z))))) (Lens.whole _ _) sizeOf33 rfl rfl rfl ?_
   refine aa rfl rfl ?_
   refine at_nil ?_
   refine dz ?_
   refine dz ?_
   refine dz ?_
   refine dz ?_
   refine dz ?_
   refine wq [3,2] rfl ?_
   refine tn ?_
   refine at_ret ?_
   refine at_blk_ret (at_then_ret (at_then_ret (at_blk_ret (at_then_ret ?_))))
   have hN91 : NK_api_Item (KZ w0 Z_) s_ zv6:=⟨RowK.nil ..,RowK.nil ..⟩
   have K:=of_some hF
   subst K
   exact at_res2 rfl (res_cell (c:=c_api_Item) (y:=zv6) rfl .z (Lens.whole _ _) isAgg33 sizeOf33 (.inl rfl)) (res_tmp rfl) (fun w1 hw=>⟨Z_,s_,zv5,hM_,rfl,hN91,hw.pop⟩)
  refine cf rfl h90 ?_
  refine at_skip ?_
  refine at_blk_normal (at_then_normal ?_)
  refine at_region ?_
  refine av rfl (r_iadd rfl rfl) ?_
  refine at_ov (t:=58) rfl (show Value.int .i64 (wr .i64 (1 + 1)) = .int .i64 2 from by rfl) ?_
  refine am rfl rfl ?_
  refine nt ?_
  refine wq [41,40,39,5,4,2] rfl ?_
  refine at_round ?_
  refine sr ?_
  refine av rfl (r_ilss rfl rfl) ?_
  refine at_fix (g:=42) rfl (show (decide (2 < 2)) = false from by decide) ?_
  refine nwq [42,41,40,39,5,4,2] rfl ?_
  refine at_seq ?_
  refine cf rfl rfl ?_
  refine at_exit ?_
  refine at_then_exit (at_then_exit ?_)
  refine at_blk_same ?_
  refine at_drop (H:=_) (.s (.s .z)) ?_
  refine at_drop (H:=_) (.s (.s (.s .z))) ?_
  refine tn ?_
  refine sr ?_
  refine av rfl (r_load_aggc (c:=c_api_Item) (z:=(((p73,c74),(p88,c89)),{ { { { zv4 with f_Kind:=t10 } with f_Bytes:=t72.1 } with f_Ok:=true } with f_Result:=t87.1 })) isAgg33 sizeOf33 rfl (lens_cell (.s (.s .z)) (Lens.whole _ _))) ?_
  refine at_store (c:=c_api_Item) (z:=(((p73,c74),(p88,c89)),{ { { { zv4 with f_Kind:=t10 } with f_Bytes:=t72.1 } with f_Ok:=true } with f_Result:=t87.1 })) (.s (.s (.s .z))) (Lens.whole _ _) sizeOf33 rfl rfl rfl ?_
  refine aa rfl rfl ?_
  refine at_nil ?_
  refine at_drop (H:=_) (.s (.s .z)) ?_
  refine wq [3,2] rfl ?_
  refine tn ?_
  refine at_ret ?_
  refine at_front (.s .z) ?_
  refine at_freeze (.s (.s .z)) ?_
  intro Z_ s_ hm93 hk94
  replace hM_:=Mono.mono hM_ hm93
  refine at_freeze (.s .z) ?_
  intro Z_ s_ hm95 hk96
  replace hM_:=Mono.mono hM_ hm95
  replace hk94:=RowK.mono hk94 hm95
  have hN92 : NK_api_Item (KZ w0 Z_) s_ (((p73,c74),(p88,c89)),{ { { { zv4 with f_Kind:=t10 } with f_Bytes:=t72.1 } with f_Ok:=true } with f_Result:=t87.1 }):=⟨hk94,hk96⟩
  have K:=of_some hF
  subst K
  exact at_res2 rfl (res_cell (c:=c_api_Item) (y:=(((p73,c74),(p88,c89)),{ { { { zv4 with f_Kind:=t10 } with f_Bytes:=t72.1 } with f_Ok:=true } with f_Result:=t87.1 })) rfl .z (Lens.whole _ _) isAgg33 sizeOf33 (.inl rfl)) (res_tmp rfl) (fun w1 hw=>⟨Z_,s_,((p73,c74),(p88,c89)),hM_,rfl,hN92,hw.pop⟩)
 refine cf rfl h59 ?_
 refine sr ?_
 refine av rfl (r_ieql rfl rfl) ?_
 refine aa rfl rfl ?_
 refine nwq [25,8,5,4,2] rfl ?_
 rcases oi hF with ⟨h97,hF⟩|⟨h97,hF⟩
 ·refine ct rfl h97 ?_
  refine sr ?_
  refine at_callI func80 rfl (by kernel_rfl) rfl rfl rfl rfl ?_
  refine dz ?_
  refine dz ?_
  refine dz ?_
  refine dz ?_
  refine at_weak [] trivial ?_
  refine sr ?_
  refine at_alloc (cs:=zl20) zeroValue104 rfl rfl ?_
  intro b98
  refine nwx [0] rfl ?_
  refine av rfl (r_build_struct (zs:=zl20) (cs:=zl13) underlying104 zeroValue104 rfl placesR_104 rfl rfl) ?_
  refine sa 3 (zl13) .z rfl rfl sizeOf104 rfl rfl rfl ?_
  refine nwq [0] rfl ?_
  refine at_ret ?_
  refine at_resI1 rfl (res_cell (c:=cK 3 (by decide)) (y:=ck 3 (zl13) rfl) rfl .z (Lens.whole _ _) isAgg104 sizeOf104 (.inl rfl)) ?_
  refine at_callI func78 rfl (by kernel_rfl) rfl rfl rfl rfl ?_
  refine dz ?_
  refine at_weak [] trivial ?_
  refine sr ?_
  refine at_alloc (cs:=zl20) zeroValue104 rfl rfl ?_
  intro b99
  refine nwx [0] rfl ?_
  refine av rfl (r_build_struct (zs:=zl20) (cs:=zl11) underlying104 zeroValue104 rfl placesR_104 rfl rfl) ?_
  refine sa 3 (zl11) .z rfl rfl sizeOf104 rfl rfl rfl ?_
  refine nwq [0] rfl ?_
  refine at_ret ?_
  refine at_resI1 rfl (res_cell (c:=cK 3 (by decide)) (y:=ck 3 (zl11) rfl) rfl .z (Lens.whole _ _) isAgg104 sizeOf104 (.inl rfl)) ?_
  refine at_callI func79 rfl (by kernel_rfl) rfl rfl rfl rfl ?_
  refine dz ?_
  refine at_weak [] trivial ?_
  refine sr ?_
  refine at_alloc (cs:=zl20) zeroValue104 rfl rfl ?_
  intro b100
  refine nwx [0] rfl ?_
  refine av rfl (r_build_struct (zs:=zl20) (cs:=zl12) underlying104 zeroValue104 rfl placesR_104 rfl rfl) ?_
  refine sa 3 (zl12) .z rfl rfl sizeOf104 rfl rfl rfl ?_
  refine nwq [0] rfl ?_
  refine at_ret ?_
  refine at_resI1 rfl (res_cell (c:=cK 3 (by decide)) (y:=ck 3 (zl12) rfl) rfl .z (Lens.whole _ _) isAgg104 sizeOf104 (.inl rfl)) ?_
  refine at_litG (cs:=zl5) underlying96 sizeOf104 zeroValue104 rfl rfl rfl (by kernel_rfl) rfl ?_
  intro b101
  refine av rfl (r_build_struct (zs:=zl19) (cs:=(zl18 b101)) underlying98 zeroValue98 rfl placesR_98 rfl rfl) ?_
  refine sa 2 ((zl18 b101)) (.s (.s .z)) rfl rfl sizeOf98 rfl rfl rfl ?_
  refine aa rfl rfl ?_
  refine at_nil ?_
  refine at_drop (H:=_) (.s .z) ?_
  refine wq [3,2] rfl ?_
  refine tn ?_
  refine at_ret ?_
  refine at_blk_ret (at_then_ret ?_)
  refine at_resI2 rfl (res_cell (c:=cK 2 (by decide)) (y:=ck 2 ((zl18 b101)) rfl) rfl (.s .z) (Lens.whole _ _) isAgg98 sizeOf98 (.inl rfl)) (res_tmp rfl) ?_
  refine am rfl rfl ?_
  refine av rfl (r_extract rfl rfl) ?_
  refine av rfl (r_extract rfl rfl) ?_
  refine at_alloc (cs:=zl19) zeroValue98 rfl rfl ?_
  intro b102
  refine sa 2 ((zl18 b101)) .z rfl rfl sizeOf98 rfl rfl rfl ?_
  refine aa rfl rfl ?_
  refine at_nil ?_
  refine at_drop (H:=_) (.s (.s .z)) ?_
  refine wq [7,6,5,4,2] rfl ?_
  refine tn ?_
  refine at_seq ?_
  refine at_block ?_
  refine sr ?_
  refine am rfl rfl ?_
  refine av rfl (r_not rfl) ?_
  refine aa rfl rfl ?_
  refine nwq [25,6,5,4,2] rfl ?_
  refine cf rfl rfl ?_
  refine sr ?_
  refine am rfl rfl ?_
  refine av rfl (r_len_sl underlying38 rfl) ?_
  refine av rfl (r_isub rfl rfl) ?_
  refine fa 1 underlying98 rfl rfl sizeOf96 rfl rfl ?_
  refine av rfl (r_load_cell isAgg96 rfl (fun w1 hw=>cells_get (hw.ok (Upd.mem .z)) 1 _ rfl)) ?_
  refine av rfl (r_len_sl underlying96 rfl) ?_
  refine av rfl (r_ineq rfl rfl) ?_
  refine aa rfl rfl ?_
  refine nwq [29,6,5,4,2] rfl ?_
  rcases oi hF with ⟨h103,hF⟩|⟨h103,hF⟩
  ·refine ct rfl h103 ?_
   refine sr ?_
   refine av rfl (r_build_struct (zs:=Cd.cs c_api_Item zv6) (cs:=Cd.cs c_api_Item zv6) underlying33 zeroValue33 rfl (places_api_Item_33) rfl rfl) ?_
   refine at_store (c:=c_api_Item) (z:=zv6) (.s (.s (.s (.s .z)))) (Lens.whole _ _) sizeOf33 rfl rfl rfl ?_
   refine aa rfl rfl ?_
   refine at_nil ?_
   refine dz ?_
   refine dz ?_
   refine dz ?_
   refine dz ?_
   refine wq [3,2] rfl ?_
   refine tn ?_
   refine at_ret ?_
   refine at_blk_ret (at_then_ret ?_)
   have hN104 : NK_api_Item (KZ w0 Z_) s_ zv6:=⟨RowK.nil ..,RowK.nil ..⟩
   have K:=of_some hF
   subst K
   exact at_res2 rfl (res_cell (c:=c_api_Item) (y:=zv6) rfl .z (Lens.whole _ _) isAgg33 sizeOf33 (.inl rfl)) (res_tmp rfl) (fun w1 hw=>⟨Z_,s_,zv5,hM_,rfl,hN104,hw.pop⟩)
  refine cf rfl h103 ?_
  refine at_skip ?_
  refine at_blk_normal (at_then_normal ?_)
  refine at_seq ?_
  refine sr ?_
  refine fa 1 underlying98 rfl rfl sizeOf96 rfl rfl ?_
  refine av rfl (r_load_cell isAgg96 rfl (fun w1 hw=>cells_get (hw.ok (Upd.mem .z)) 1 _ rfl)) ?_
  refine av rfl (r_len_sl underlying96 rfl) ?_
  refine am rfl rfl ?_
  refine at_nil ?_
  refine dz ?_
  refine wq [41,40,39,5,4,2] rfl ?_
  refine tn ?_
  refine at_block ?_
  refine wq [41,40,39,5,4,2] rfl ?_
  refine at_loop ?_
  refine at_round ?_
  refine sr ?_
  refine av rfl (r_ilss rfl rfl) ?_
  refine at_fix (g:=42) rfl (show (decide (0 < 3)) = true from by decide) ?_
  refine nwq [42,41,40,39,5,4,2] rfl ?_
  refine at_seq ?_
  refine ct rfl rfl ?_
  refine sn ?_
  refine at_seq ?_
  refine at_block ?_
  refine sr ?_
  refine am rfl rfl ?_
  refine av rfl (r_idx underlying96 sizeOf104 rfl rfl (by decide) rfl) ?_
  refine av rfl (r_load_agg (l:=zl13) isAgg104 sizeOf104 rfl rfl (fun w1 hw=>cells_mid (pre:=[]) (suf:=zl7) (hw.ok (Upd.mem .z)) rfl rfl)) ?_
  refine at_alloc (cs:=zl20) zeroValue104 rfl rfl ?_
  intro b105
  refine aa rfl rfl ?_
  refine sa 3 (zl13) .z rfl rfl sizeOf104 rfl rfl rfl ?_
  refine nt ?_
  refine at_seq ?_
  refine wq [41,40,39,9,8,5,4,2] rfl ?_
  obtain ⟨h106,hF⟩:=of_guard hF
  refine at_pure (φ:=∃ b o,p4 = some ⟨b,o,none⟩) (fun _ hw=>row_ptr (hw.own (.s (.s (.s .z)))).row h106) ?_
  rintro ⟨b108,o109,hp107⟩
  refine at_invT [.q 46 (fun g110=>.pointer (some ⟨b105,0 + 1,none⟩)) [] 0 0,.q 47 (fun g110=>.func (.func 134) #[] #[]) [0] 0 0,.q 48 (fun g110=>.slice p4 t3.length c5) [] 0 0,.q 49 (fun g110=>.int .i64 0) [] 0 0,.q 50 (fun g110=>.int .i64 (wr .i64 (0 + 1))) [3] 0 0,.q 51 (fun g110=>.pointer (some ⟨b108,o109 + Int.toNat (wr .i64 (0 + 1)) * 1,none⟩)) [2,4] 0 0,.q 52 (fun g110=>.string (lget t3 (wr .i64 (0 + 1)))) [5] 0 0] (fun g110 s=>match s with | _=>(Wd w0 (cellsE b105 zl13 104::cellsE b101 zl5 104::cellsE b11 (Cd.cs c_api_Item (zv5,{ zv4 with f_Kind:=t10 })) 33::rowE cStr 9 p4 c5 t3::cellsE b1 (Cd.cs c_api_Item zv6) 33::frzE w0 Z_ s_::G_))) 0 7 (by kernel_rfl) (by kernel_rfl) (by kernel_rfl) (by kernel_rfl) (by kernel_rfl) (by kernel_rfl) ⟨fun _ _ _=>rfl,fun _ _ _=>rfl,fun _ _ _=>rfl,fun _ _ _=>rfl,fun _ _ _=>rfl,fun _ _ _=>rfl,fun _ _ _=>rfl,trivial⟩ (by kernel_rfl) (fun w_ h=>⟨fun _=>g3 0 none 0 none w_,h.drew⟩) ⟨?_,?_,?_,?_,?_,?_,?_,trivial⟩ ?_
  ·intro Lx g110 s K hl hh k
   show At 60 ((2,_)::(4,_)::(5,_)::(8,_)::(9,_)::(39,_)::(40,_)::(41,_)::Lx) _ _
   refine fa 1 underlying104 rfl rfl sizeOf101 rfl rfl ?_
   exact at_nil k
  ·intro Lx g110 s K hl hh k
   show At 60 ((46,_)::(2,_)::(4,_)::(5,_)::(8,_)::(9,_)::(39,_)::(40,_)::(41,_)::Lx) _ _
   obtain rfl : s = 0:=by omega
   refine av rfl (r_load_cell isAgg101 rfl (fun w1 hw=>cells_get (hw.ok (Upd.mem .z)) 1 _ rfl)) ?_
   exact at_nil k
  ·intro Lx g110 s K hl hh k
   show At 60 ((2,_)::(4,_)::(5,_)::(8,_)::(9,_)::(39,_)::(40,_)::(41,_)::Lx) _ _
   refine am rfl rfl ?_
   exact at_nil k
  ·intro Lx g110 s K hl hh k
   show At 60 ((2,_)::(4,_)::(5,_)::(8,_)::(9,_)::(39,_)::(40,_)::(41,_)::Lx) _ _
   refine am rfl rfl ?_
   exact at_nil k
  ·intro Lx g110 s K hl hh k
   show At 60 ((49,_)::(2,_)::(4,_)::(5,_)::(8,_)::(9,_)::(39,_)::(40,_)::(41,_)::Lx) _ _
   refine av rfl (r_iadd rfl rfl) ?_
   exact at_nil k
  ·intro Lx g110 s K hl hh k
   show At 60 ((48,_)::(50,_)::(2,_)::(4,_)::(5,_)::(8,_)::(9,_)::(39,_)::(40,_)::(41,_)::Lx) _ _
   refine av rfl (r_idx underlying38 sizeOf9 rfl rfl h106 hp107) ?_
   exact at_nil k
  ·intro Lx g110 s K hl hh k
   show At 60 ((51,_)::(2,_)::(4,_)::(5,_)::(8,_)::(9,_)::(39,_)::(40,_)::(41,_)::Lx) _ _
   obtain rfl : s = 0:=by omega
   refine av rfl (r_load_cell isAgg9 rfl (fun _ hw=>row_cell0 (W:=fun w1=>w1 = _) (fun w1 h=>by subst h; exact Below.refl _ _) (hw.own (.s (.s (.s .z)))).row h106 hp107 rfl _ rfl)) ?_
   exact at_nil k
  intro g110
  show At 60 [(46,_),(47,_),(48,_),(49,_),(50,_),(51,_),(52,_),(2,_),(4,_),(5,_),(8,_),(9,_),(39,_),(40,_),(41,_)] _ _
  refine at_callee rfl ?_
  refine at_callI func134 rfl (by kernel_rfl) rfl rfl rfl rfl ?_
  refine dz ?_
  refine sr ?_
  refine aa rfl rfl ?_
  refine ns ?_
  refine am rfl rfl ?_
  refine am rfl rfl ?_
  obtain ⟨t111,ht111,hF⟩:=of_bindM hF
  refine at_callB func99 rfl (by kernel_rfl) rfl rfl (fun w hw=>hostport_Parse_ok _ _ ht111 w (hg_bytealg_MaxLen.on hw.below) (hg_strconv_ErrRange.on hw.below) (hg_strconv_ErrSyntax.on hw.below)) ?_
  refine am rfl rfl ?_
  refine av rfl (r_extract rfl rfl) ?_
  refine av rfl (r_extract rfl rfl) ?_
  refine av rfl (r_nilCheck rfl) ?_
  refine fa 2 underlying33 rfl rfl sizeOf27 rfl rfl ?_
  refine at_store (c:=c_api_Endpoint) (z:=t111.1) (.s .z) (c_api_Item_f_From zv5 ({ zv4 with f_Kind:=t10 })) sizeOf27 rfl rfl rfl ?_
  refine aa rfl rfl ?_
  refine ns ?_
  refine am rfl rfl ?_
  refine aa rfl rfl ?_
  refine nwq [4] rfl ?_
  refine at_ret ?_
  refine at_retI1 rfl rfl ?_
  refine aa rfl rfl ?_
  refine ns ?_
  refine am rfl rfl ?_
  refine av rfl (r_ineq rfl rfl) ?_
  refine nwq [55,41,40,39,10,5,4,2] rfl ?_
  rcases oi hF with ⟨h112,hF⟩|⟨h112,hF⟩
  ·refine ct rfl h112 ?_
   refine sr ?_
   refine av rfl (r_build_struct (zs:=Cd.cs c_api_Item zv6) (cs:=Cd.cs c_api_Item zv6) underlying33 zeroValue33 rfl (places_api_Item_33) rfl rfl) ?_
   refine am rfl rfl ?_
   refine at_store (c:=c_api_Item) (z:=zv6) (.s (.s (.s .z))) (Lens.whole _ _) sizeOf33 rfl rfl rfl ?_
   refine aa rfl rfl ?_
   refine at_nil ?_
   refine dz ?_
   refine dz ?_
   refine dz ?_
   refine wq [3,2] rfl ?_
   refine tn ?_
   refine at_ret ?_
   refine at_blk_ret (at_then_ret (at_then_ret (at_blk_ret (at_then_ret ?_))))
   have hN113 : NK_api_Item (KZ w0 Z_) s_ zv6:=⟨RowK.nil ..,RowK.nil ..⟩
   have K:=of_some hF
   subst K
   exact at_res2 rfl (res_cell (c:=c_api_Item) (y:=zv6) rfl .z (Lens.whole _ _) isAgg33 sizeOf33 (.inl rfl)) (res_tmp rfl) (fun w1 hw=>⟨Z_,s_,zv5,hM_,rfl,hN113,hw.pop⟩)
  refine cf rfl h112 ?_
  refine at_skip ?_
  refine at_blk_normal (at_then_normal ?_)
  refine at_region ?_
  refine av rfl (r_iadd rfl rfl) ?_
  refine at_ov (t:=58) rfl (show Value.int .i64 (wr .i64 (0 + 1)) = .int .i64 1 from by rfl) ?_
  refine am rfl rfl ?_
  refine nt ?_
  refine wq [41,40,39,5,4,2] rfl ?_
  refine at_round ?_
  refine sr ?_
  refine av rfl (r_ilss rfl rfl) ?_
  refine at_fix (g:=42) rfl (show (decide (1 < 3)) = true from by decide) ?_
  refine nwq [42,41,40,39,5,4,2] rfl ?_
  refine at_seq ?_
  refine ct rfl rfl ?_
  refine sn ?_
  refine at_seq ?_
  refine at_block ?_
  refine sr ?_
  refine am rfl rfl ?_
  refine av rfl (r_idx underlying96 sizeOf104 rfl rfl (by decide) rfl) ?_
  refine av rfl (r_load_agg (l:=zl11) isAgg104 sizeOf104 rfl rfl (fun w1 hw=>cells_mid (pre:=zl13) (suf:=zl12) (hw.ok (Upd.mem .z)) rfl rfl)) ?_
  refine at_alloc (cs:=zl20) zeroValue104 rfl rfl ?_
  intro b114
  refine aa rfl rfl ?_
  refine sa 3 (zl11) .z rfl rfl sizeOf104 rfl rfl rfl ?_
  refine nt ?_
  refine at_seq ?_
  refine wq [41,40,39,9,8,5,4,2] rfl ?_
  obtain ⟨h115,hF⟩:=of_guard hF
  refine at_pure (φ:=∃ b o,p4 = some ⟨b,o,none⟩) (fun _ hw=>row_ptr (hw.own (.s (.s (.s .z)))).row h115) ?_
  rintro ⟨b117,o118,hp116⟩
  refine at_invT [.q 46 (fun g119=>.pointer (some ⟨b114,0 + 1,none⟩)) [] 0 0,.q 47 (fun g119=>.func (.func 127) #[] #[]) [0] 0 0,.q 48 (fun g119=>.slice p4 t3.length c5) [] 0 0,.q 49 (fun g119=>.int .i64 1) [] 0 0,.q 50 (fun g119=>.int .i64 (wr .i64 (1 + 1))) [3] 0 0,.q 51 (fun g119=>.pointer (some ⟨b117,o118 + Int.toNat (wr .i64 (1 + 1)) * 1,none⟩)) [2,4] 0 0,.q 52 (fun g119=>.string (lget t3 (wr .i64 (1 + 1)))) [5] 0 0] (fun g119 s=>match s with | _=>(Wd w0 (cellsE b114 zl11 104::cellsE b101 zl5 104::cellsE b11 (Cd.cs c_api_Item (zv5,{ { zv4 with f_Kind:=t10 } with f_From:=t111.1 })) 33::rowE cStr 9 p4 c5 t3::cellsE b1 (Cd.cs c_api_Item zv6) 33::frzE w0 Z_ s_::G_))) 0 7 (by kernel_rfl) (by kernel_rfl) (by kernel_rfl) (by kernel_rfl) (by kernel_rfl) (by kernel_rfl) ⟨fun _ _ _=>rfl,fun _ _ _=>rfl,fun _ _ _=>rfl,fun _ _ _=>rfl,fun _ _ _=>rfl,fun _ _ _=>rfl,fun _ _ _=>rfl,trivial⟩ (by kernel_rfl) (fun w_ h=>⟨fun _=>g3 0 none 0 none w_,h.drew⟩) ⟨?_,?_,?_,?_,?_,?_,?_,trivial⟩ ?_
  ·intro Lx g119 s K hl hh k
   show At 60 ((2,_)::(4,_)::(5,_)::(8,_)::(9,_)::(39,_)::(40,_)::(41,_)::Lx) _ _
   refine fa 1 underlying104 rfl rfl sizeOf101 rfl rfl ?_
   exact at_nil k
  ·intro Lx g119 s K hl hh k
   show At 60 ((46,_)::(2,_)::(4,_)::(5,_)::(8,_)::(9,_)::(39,_)::(40,_)::(41,_)::Lx) _ _
   obtain rfl : s = 0:=by omega
   refine av rfl (r_load_cell isAgg101 rfl (fun w1 hw=>cells_get (hw.ok (Upd.mem .z)) 1 _ rfl)) ?_
   exact at_nil k
  ·intro Lx g119 s K hl hh k
   show At 60 ((2,_)::(4,_)::(5,_)::(8,_)::(9,_)::(39,_)::(40,_)::(41,_)::Lx) _ _
   refine am rfl rfl ?_
   exact at_nil k
  ·intro Lx g119 s K hl hh k
   show At 60 ((2,_)::(4,_)::(5,_)::(8,_)::(9,_)::(39,_)::(40,_)::(41,_)::Lx) _ _
   refine am rfl rfl ?_
   exact at_nil k
  ·intro Lx g119 s K hl hh k
   show At 60 ((49,_)::(2,_)::(4,_)::(5,_)::(8,_)::(9,_)::(39,_)::(40,_)::(41,_)::Lx) _ _
   refine av rfl (r_iadd rfl rfl) ?_
   exact at_nil k
  ·intro Lx g119 s K hl hh k
   show At 60 ((48,_)::(50,_)::(2,_)::(4,_)::(5,_)::(8,_)::(9,_)::(39,_)::(40,_)::(41,_)::Lx) _ _
   refine av rfl (r_idx underlying38 sizeOf9 rfl rfl h115 hp116) ?_
   exact at_nil k
  ·intro Lx g119 s K hl hh k
   show At 60 ((51,_)::(2,_)::(4,_)::(5,_)::(8,_)::(9,_)::(39,_)::(40,_)::(41,_)::Lx) _ _
   obtain rfl : s = 0:=by omega
   refine av rfl (r_load_cell isAgg9 rfl (fun _ hw=>row_cell0 (W:=fun w1=>w1 = _) (fun w1 h=>by subst h; exact Below.refl _ _) (hw.own (.s (.s (.s .z)))).row h115 hp116 rfl _ rfl)) ?_
   exact at_nil k
  intro g119
  show At 60 [(46,_),(47,_),(48,_),(49,_),(50,_),(51,_),(52,_),(2,_),(4,_),(5,_),(8,_),(9,_),(39,_),(40,_),(41,_)] _ _
  refine at_callee rfl ?_
  refine at_callI func127 rfl (by kernel_rfl) rfl rfl rfl rfl ?_
  refine dz ?_
  refine sr ?_
  refine aa rfl rfl ?_
  refine ns ?_
  refine am rfl rfl ?_
  refine am rfl rfl ?_
  obtain ⟨t120,ht120,hF⟩:=of_bindM hF
  refine at_callO (c:=(cInt .u8)) (e:=5) (ys:=t120.1) (V:=fun p cap=>.tuple #[.slice p t120.1.length cap,.int .i64 t120.2]) func128 rfl (by kernel_rfl) rfl rfl (fun w hw=>script_unword_ok _ _ ht120 w) ?_
  intro p121 c122
  refine am rfl rfl ?_
  refine av rfl (r_extract rfl rfl) ?_
  refine av rfl (r_extract rfl rfl) ?_
  refine av rfl (r_nilCheck rfl) ?_
  refine fa 1 underlying33 rfl rfl sizeOf22 rfl rfl ?_
  refine at_store (c:=cSv Int) (z:=((p121,c122),t120.1)) (.s (.s .z)) (c_api_Item_f_Bytes_sv zv5 ({ { zv4 with f_Kind:=t10 } with f_From:=t111.1 })) sizeOf22 rfl rfl rfl ?_
  refine aa rfl rfl ?_
  refine ns ?_
  refine am rfl rfl ?_
  refine aa rfl rfl ?_
  refine nwq [4] rfl ?_
  refine at_ret ?_
  refine at_retI1 rfl rfl ?_
  refine aa rfl rfl ?_
  refine ns ?_
  refine am rfl rfl ?_
  refine av rfl (r_ineq rfl rfl) ?_
  refine nwq [55,41,40,39,10,5,4,2] rfl ?_
  rcases oi hF with ⟨h123,hF⟩|⟨h123,hF⟩
  ·refine ct rfl h123 ?_
   refine sr ?_
   refine av rfl (r_build_struct (zs:=Cd.cs c_api_Item zv6) (cs:=Cd.cs c_api_Item zv6) underlying33 zeroValue33 rfl (places_api_Item_33) rfl rfl) ?_
   refine am rfl rfl ?_
   refine at_store (c:=c_api_Item) (z:=zv6) (.s (.s (.s (.s .z)))) (Lens.whole _ _) sizeOf33 rfl rfl rfl ?_
   refine aa rfl rfl ?_
   refine at_nil ?_
   refine dz ?_
   refine dz ?_
   refine dz ?_
   refine dz ?_
   refine wq [3,2] rfl ?_
   refine tn ?_
   refine at_ret ?_
   refine at_blk_ret (at_then_ret (at_then_ret (at_blk_ret (at_then_ret ?_))))
   have hN124 : NK_api_Item (KZ w0 Z_) s_ zv6:=⟨RowK.nil ..,RowK.nil ..⟩
   have K:=of_some hF
   subst K
   exact at_res2 rfl (res_cell (c:=c_api_Item) (y:=zv6) rfl .z (Lens.whole _ _) isAgg33 sizeOf33 (.inl rfl)) (res_tmp rfl) (fun w1 hw=>⟨Z_,s_,zv5,hM_,rfl,hN124,hw.pop⟩)
  refine cf rfl h123 ?_
  refine at_skip ?_
  refine at_blk_normal (at_then_normal ?_)
  refine at_region ?_
  refine av rfl (r_iadd rfl rfl) ?_
  refine at_ov (t:=58) rfl (show Value.int .i64 (wr .i64 (1 + 1)) = .int .i64 2 from by rfl) ?_
  refine am rfl rfl ?_
  refine nt ?_
  refine wq [41,40,39,5,4,2] rfl ?_
  refine at_round ?_
  refine sr ?_
  refine av rfl (r_ilss rfl rfl) ?_
  refine at_fix (g:=42) rfl (show (decide (2 < 3)) = true from by decide) ?_
  refine nwq [42,41,40,39,5,4,2] rfl ?_
  refine at_seq ?_
  refine ct rfl rfl ?_
  refine sn ?_
  refine at_seq ?_
  refine at_block ?_
  refine sr ?_
  refine am rfl rfl ?_
  refine av rfl (r_idx underlying96 sizeOf104 rfl rfl (by decide) rfl) ?_
  refine av rfl (r_load_agg (l:=zl12) isAgg104 sizeOf104 rfl rfl (fun w1 hw=>cells_mid (pre:=zl8) (suf:=[]) (hw.ok (Upd.mem (.s .z))) rfl rfl)) ?_
  refine at_alloc (cs:=zl20) zeroValue104 rfl rfl ?_
  intro b125
  refine aa rfl rfl ?_
  refine sa 3 (zl12) .z rfl rfl sizeOf104 rfl rfl rfl ?_
  refine nt ?_
  refine at_seq ?_
  refine wq [41,40,39,9,8,5,4,2] rfl ?_
  obtain ⟨h126,hF⟩:=of_guard hF
  refine at_pure (φ:=∃ b o,p4 = some ⟨b,o,none⟩) (fun _ hw=>row_ptr (hw.own (.s (.s (.s (.s .z))))).row h126) ?_
  rintro ⟨b128,o129,hp127⟩
  refine at_invT [.q 46 (fun g130=>.pointer (some ⟨b125,0 + 1,none⟩)) [] 0 0,.q 47 (fun g130=>.func (.func 131) #[] #[]) [0] 0 0,.q 48 (fun g130=>.slice p4 t3.length c5) [] 0 0,.q 49 (fun g130=>.int .i64 2) [] 0 0,.q 50 (fun g130=>.int .i64 (wr .i64 (2 + 1))) [3] 0 0,.q 51 (fun g130=>.pointer (some ⟨b128,o129 + Int.toNat (wr .i64 (2 + 1)) * 1,none⟩)) [2,4] 0 0,.q 52 (fun g130=>.string (lget t3 (wr .i64 (2 + 1)))) [5] 0 0] (fun g130 s=>match s with | _=>(Wd w0 (cellsE b125 zl12 104::rowE (cInt .u8) 5 p121 c122 t120.1::cellsE b101 zl5 104::cellsE b11 (Cd.cs c_api_Item (((p121,c122),zv2),{ { { zv4 with f_Kind:=t10 } with f_From:=t111.1 } with f_Bytes:=t120.1 })) 33::rowE cStr 9 p4 c5 t3::cellsE b1 (Cd.cs c_api_Item zv6) 33::frzE w0 Z_ s_::G_))) 0 7 (by kernel_rfl) (by kernel_rfl) (by kernel_rfl) (by kernel_rfl) (by kernel_rfl) (by kernel_rfl) ⟨fun _ _ _=>rfl,fun _ _ _=>rfl,fun _ _ _=>rfl,fun _ _ _=>rfl,fun _ _ _=>rfl,fun _ _ _=>rfl,fun _ _ _=>rfl,trivial⟩ (by kernel_rfl) (fun w_ h=>⟨fun _=>g3 0 none 0 none w_,h.drew⟩) ⟨?_,?_,?_,?_,?_,?_,?_,trivial⟩ ?_
  ·intro Lx g130 s K hl hh k
   show At 60 ((2,_)::(4,_)::(5,_)::(8,_)::(9,_)::(39,_)::(40,_)::(41,_)::Lx) _ _
   refine fa 1 underlying104 rfl rfl sizeOf101 rfl rfl ?_
   exact at_nil k
  ·intro Lx g130 s K hl hh k
   show At 60 ((46,_)::(2,_)::(4,_)::(5,_)::(8,_)::(9,_)::(39,_)::(40,_)::(41,_)::Lx) _ _
   obtain rfl : s = 0:=by omega
   refine av rfl (r_load_cell isAgg101 rfl (fun w1 hw=>cells_get (hw.ok (Upd.mem .z)) 1 _ rfl)) ?_
   exact at_nil k
  ·intro Lx g130 s K hl hh k
   show At 60 ((2,_)::(4,_)::(5,_)::(8,_)::(9,_)::(39,_)::(40,_)::(41,_)::Lx) _ _
   refine am rfl rfl ?_
   exact at_nil k
  ·intro Lx g130 s K hl hh k
   show At 60 ((2,_)::(4,_)::(5,_)::(8,_)::(9,_)::(39,_)::(40,_)::(41,_)::Lx) _ _
   refine am rfl rfl ?_
   exact at_nil k
  ·intro Lx g130 s K hl hh k
   show At 60 ((49,_)::(2,_)::(4,_)::(5,_)::(8,_)::(9,_)::(39,_)::(40,_)::(41,_)::Lx) _ _
   refine av rfl (r_iadd rfl rfl) ?_
   exact at_nil k
  ·intro Lx g130 s K hl hh k
   show At 60 ((48,_)::(50,_)::(2,_)::(4,_)::(5,_)::(8,_)::(9,_)::(39,_)::(40,_)::(41,_)::Lx) _ _
   refine av rfl (r_idx underlying38 sizeOf9 rfl rfl h126 hp127) ?_
   exact at_nil k
  ·intro Lx g130 s K hl hh k
   show At 60 ((51,_)::(2,_)::(4,_)::(5,_)::(8,_)::(9,_)::(39,_)::(40,_)::(41,_)::Lx) _ _
   obtain rfl : s = 0:=by omega
   refine av rfl (r_load_cell isAgg9 rfl (fun _ hw=>row_cell0 (W:=fun w1=>w1 = _) (fun w1 h=>by subst h; exact Below.refl _ _) (hw.own (.s (.s (.s (.s .z))))).row h126 hp127 rfl _ rfl)) ?_
   exact at_nil k
  intro g130
  show At 60 [(46,_),(47,_),(48,_),(49,_),(50,_),(51,_),(52,_),(2,_),(4,_),(5,_),(8,_),(9,_),(39,_),(40,_),(41,_)] _ _
  refine at_callee rfl ?_
  refine at_callI func131 rfl (by kernel_rfl) rfl rfl rfl rfl ?_
  refine dz ?_
  refine sr ?_
  refine aa rfl rfl ?_
  refine nt ?_
  refine at_seq ?_
  refine sr ?_
  refine am rfl rfl ?_
  refine av rfl (r_seql rfl rfl) ?_
  refine nwq [6,1,0] rfl ?_
  rcases oi hF with ⟨h131,hF⟩|⟨h131,hF⟩
  ·refine ct rfl h131 ?_
   refine sr ?_
   refine aa rfl rfl ?_
   refine nwq [4] rfl ?_
   refine rt ?_
   refine at_retI1 rfl rfl ?_
   refine aa rfl rfl ?_
   refine nwx [41,40,39,10,5,4,2] rfl ?_
   refine am rfl rfl ?_
   refine av rfl (r_ineq rfl rfl) ?_
   refine at_fix (g:=55) rfl (show (0 != 0) = false from by decide) ?_
   refine nwq [55,41,40,39,10,5,4,2] rfl ?_
   refine cf rfl rfl ?_
   refine at_skip ?_
   refine at_blk_normal (at_then_normal ?_)
   refine at_region ?_
   refine av rfl (r_iadd rfl rfl) ?_
   refine at_ov (t:=58) rfl (show Value.int .i64 (wr .i64 (2 + 1)) = .int .i64 3 from by rfl) ?_
   refine am rfl rfl ?_
   refine nt ?_
   refine wq [41,40,39,5,4,2] rfl ?_
   refine at_round ?_
   refine sr ?_
   refine av rfl (r_ilss rfl rfl) ?_
   refine at_fix (g:=42) rfl (show (decide (3 < 3)) = false from by decide) ?_
   refine nwq [42,41,40,39,5,4,2] rfl ?_
   refine at_seq ?_
   refine cf rfl rfl ?_
   refine at_exit ?_
   refine at_then_exit (at_then_exit ?_)
   refine at_blk_same ?_
   refine at_drop (H:=_) (.s .z) ?_
   refine at_drop (H:=_) (.s (.s .z)) ?_
   refine tn ?_
   refine sr ?_
   refine av rfl (r_load_aggc (c:=c_api_Item) (z:=(((p121,c122),zv2),{ { { zv4 with f_Kind:=t10 } with f_From:=t111.1 } with f_Bytes:=t120.1 })) isAgg33 sizeOf33 rfl (lens_cell (.s .z) (Lens.whole _ _))) ?_
   refine at_store (c:=c_api_Item) (z:=(((p121,c122),zv2),{ { { zv4 with f_Kind:=t10 } with f_From:=t111.1 } with f_Bytes:=t120.1 })) (.s (.s .z)) (Lens.whole _ _) sizeOf33 rfl rfl rfl ?_
   refine aa rfl rfl ?_
   refine at_nil ?_
   refine at_drop (H:=_) (.s .z) ?_
   refine wq [3,2] rfl ?_
   refine tn ?_
   refine at_ret ?_
   refine at_freeze (.s .z) ?_
   intro Z_ s_ hm133 hk134
   replace hM_:=Mono.mono hM_ hm133
   have hN132 : NK_api_Item (KZ w0 Z_) s_ (((p121,c122),zv2),{ { { zv4 with f_Kind:=t10 } with f_From:=t111.1 } with f_Bytes:=t120.1 }):=⟨hk134,RowK.nil ..⟩
   have K:=of_some hF
   subst K
   exact at_res2 rfl (res_cell (c:=c_api_Item) (y:=(((p121,c122),zv2),{ { { zv4 with f_Kind:=t10 } with f_From:=t111.1 } with f_Bytes:=t120.1 })) rfl .z (Lens.whole _ _) isAgg33 sizeOf33 (.inl rfl)) (res_tmp rfl) (fun w1 hw=>⟨Z_,s_,((p121,c122),zv2),hM_,rfl,hN132,hw.pop⟩)
  refine cf rfl h131 ?_
  refine sns ?_
  refine am rfl rfl ?_
  refine av rfl (r_nilCheck rfl) ?_
  refine fa 21 underlying33 rfl rfl sizeOf4 rfl rfl ?_
  refine at_store (c:=cBool) (z:=true) (.s (.s .z)) (c_api_Item_f_Ok ((p121,c122),zv2) ({ { { zv4 with f_Kind:=t10 } with f_From:=t111.1 } with f_Bytes:=t120.1 })) sizeOf4 rfl rfl rfl ?_
  refine ns ?_
  refine am rfl rfl ?_
  refine am rfl rfl ?_
  obtain ⟨t135,ht135,hF⟩:=of_bindM hF
  refine at_callO (c:=(cInt .u8)) (e:=5) (ys:=t135.1) (V:=fun p cap=>.tuple #[.slice p t135.1.length cap,.int .i64 t135.2]) func128 rfl (by kernel_rfl) rfl rfl (fun w hw=>script_unword_ok _ _ ht135 w) ?_
  intro p136 c137
  refine am rfl rfl ?_
  refine av rfl (r_extract rfl rfl) ?_
  refine av rfl (r_extract rfl rfl) ?_
  refine av rfl (r_nilCheck rfl) ?_
  refine fa 20 underlying33 rfl rfl sizeOf22 rfl rfl ?_
  refine at_store (c:=cSv Int) (z:=((p136,c137),t135.1)) (.s (.s (.s .z))) (c_api_Item_f_Result_sv ((p121,c122),zv2) ({ { { { zv4 with f_Kind:=t10 } with f_From:=t111.1 } with f_Bytes:=t120.1 } with f_Ok:=true })) sizeOf22 rfl rfl rfl ?_
  refine aa rfl rfl ?_
  refine ns ?_
  refine am rfl rfl ?_
  refine aa rfl rfl ?_
  refine nwq [4] rfl ?_
  refine at_ret ?_
  refine at_retI1 rfl rfl ?_
  refine aa rfl rfl ?_
  refine ns ?_
  refine am rfl rfl ?_
  refine av rfl (r_ineq rfl rfl) ?_
  refine nwq [55,41,40,39,10,5,4,2] rfl ?_
  rcases oi hF with ⟨h138,hF⟩|⟨h138,hF⟩
  ·refine ct rfl h138 ?_
   refine sr ?_
   refine av rfl (r_build_struct (zs:=Cd.cs c_api_Item zv6) (cs:=Cd.cs c_api_Item zv6) underlying33 zeroValue33 rfl (places_api_Item_33) rfl rfl) ?_
   refine am rfl rfl ?_
   refine at_store (c:=c_api_Item) (z:=zv6) (.s (.s (.s (.s (.s .z))))) (Lens.whole _ _) sizeOf33 rfl rfl rfl ?_
   refine aa rfl rfl ?_
   refine at_nil ?_
   refine dz ?_
   refine dz ?_
   refine dz ?_
   refine dz ?_
   refine dz ?_
   refine wq [3,2] rfl ?_
   refine tn ?_
   refine at_ret ?_
   refine at_blk_ret (at_then_ret (at_then_ret (at_blk_ret (at_then_ret ?_))))
   have hN139 : NK_api_Item (KZ w0 Z_) s_ zv6:=⟨RowK.nil ..,RowK.nil ..⟩
   have K:=of_some hF
   subst K
   exact at_res2 rfl (res_cell (c:=c_api_Item) (y:=zv6) rfl .z (Lens.whole _ _) isAgg33 sizeOf33 (.inl rfl)) (res_tmp rfl) (fun w1 hw=>⟨Z_,s_,zv5,hM_,rfl,hN139,hw.pop⟩)
  refine cf rfl h138 ?_
  refine at_skip ?_
  refine at_blk_normal (at_then_normal ?_)
  refine at_region ?_
  refine av rfl (r_iadd rfl rfl) ?_
  refine at_ov (t:=58) rfl (show Value.int .i64 (wr .i64 (2 + 1)) = .int .i64 3 from by rfl) ?_
  refine am rfl rfl ?_
  refine nt ?_
  refine wq [41,40,39,5,4,2] rfl ?_
  refine at_round ?_
  refine sr ?_
  refine av rfl (r_ilss rfl rfl) ?_
  refine at_fix (g:=42) rfl (show (decide (3 < 3)) = false from by decide) ?_
  refine nwq [42,41,40,39,5,4,2] rfl ?_
  refine at_seq ?_
  refine cf rfl rfl ?_
  refine at_exit ?_
  refine at_then_exit (at_then_exit ?_)
  refine at_blk_same ?_
  refine at_drop (H:=_) (.s (.s .z)) ?_
  refine at_drop (H:=_) (.s (.s (.s .z))) ?_
  refine tn ?_
  refine sr ?_
  refine av rfl (r_load_aggc (c:=c_api_Item) (z:=(((p121,c122),(p136,c137)),{ { { { { zv4 with f_Kind:=t10 } with f_From:=t111.1 } with f_Bytes:=t120.1 } with f_Ok:=true } with f_Result:=t135.1 })) isAgg33 sizeOf33 rfl (lens_cell (.s (.s .z)) (Lens.whole _ _))) ?_
  refine at_store (c:=c_api_Item) (z:=(((p121,c122),(p136,c137)),{ { { { { zv4 with f_Kind:=t10 } with f_From:=t111.1 } with f_Bytes:=t120.1 } with f_Ok:=true } with f_Result:=t135.1 })) (.s (.s (.s .z))) (Lens.whole _ _) sizeOf33 rfl rfl rfl ?_
  refine aa rfl rfl ?_
  refine at_nil ?_
  refine at_drop (H:=_) (.s (.s .z)) ?_
  refine wq [3,2] rfl ?_
  refine tn ?_
  refine at_ret ?_
  refine at_front (.s .z) ?_
  refine at_freeze (.s (.s .z)) ?_
  intro Z_ s_ hm141 hk142
  replace hM_:=Mono.mono hM_ hm141
  refine at_freeze (.s .z) ?_
  intro Z_ s_ hm143 hk144
  replace hM_:=Mono.mono hM_ hm143
  replace hk142:=RowK.mono hk142 hm143
  have hN140 : NK_api_Item (KZ w0 Z_) s_ (((p121,c122),(p136,c137)),{ { { { { zv4 with f_Kind:=t10 } with f_From:=t111.1 } with f_Bytes:=t120.1 } with f_Ok:=true } with f_Result:=t135.1 }):=⟨hk142,hk144⟩
  have K:=of_some hF
  subst K
  exact at_res2 rfl (res_cell (c:=c_api_Item) (y:=(((p121,c122),(p136,c137)),{ { { { { zv4 with f_Kind:=t10 } with f_From:=t111.1 } with f_Bytes:=t120.1 } with f_Ok:=true } with f_Result:=t135.1 })) rfl .z (Lens.whole _ _) isAgg33 sizeOf33 (.inl rfl)) (res_tmp rfl) (fun w1 hw=>⟨Z_,s_,((p121,c122),(p136,c137)),hM_,rfl,hN140,hw.pop⟩)
 refine cf rfl h97 ?_
 refine sr ?_
 refine av rfl (r_ieql rfl rfl) ?_
 refine aa rfl rfl ?_
 refine nwq [32,8,5,4,2] rfl ?_
 rcases oi hF with ⟨h145,hF⟩|⟨h145,hF⟩
 ·refine ct rfl h145 ?_
  refine at_seq ?_
  refine wq [5,4,2] rfl ?_
  refine at_inv [.q 34 (fun g147=>.agg (zl9).toArray) [] 0 0,.q 35 (fun g147=>.agg (zl6 b13).toArray) [] 0 0,.q 36 (fun g147=>.agg (zl6 b16).toArray) [] 0 0,.q 37 (fun g147=>.agg (zl10).toArray) [] 0 0,.al 0 38 (fun g147=>.slice (some ⟨((g147 0).1),0,none⟩) 4 4) [0,1,2,3],.q 39 (fun g147=>.agg #[.string (⟨#[105,110,115,116,97,108,108]⟩),.slice (some ⟨((g147 0).1),0,none⟩) 4 4]) [4] 1 1,.st 1 none [5],.q 3 (fun g147=>.bool true) [] 2 2] (fun g147 s=>match s with | 0=>(Wd w0 (cellsE b18 (zl6 b16) 104::cellsE b16 zl22 133::cellsE b15 (zl6 b13) 104::cellsE b13 zl21 133::cellsE b12 zl19 98::cellsE b11 (Cd.cs c_api_Item (zv5,{ zv4 with f_Kind:=t10 })) 33::rowE cStr 9 p4 c5 t3::cellsE b1 (Cd.cs c_api_Item zv6) 33::frzE w0 Z_ s_::G_)) | 1=>(Wd w0 (cellsE ((g147 0).1) (zl0 b13 b16) 104::cellsE b18 (zl6 b16) 104::cellsE b16 zl22 133::cellsE b15 (zl6 b13) 104::cellsE b13 zl21 133::cellsE b12 zl19 98::cellsE b11 (Cd.cs c_api_Item (zv5,{ zv4 with f_Kind:=t10 })) 33::rowE cStr 9 p4 c5 t3::cellsE b1 (Cd.cs c_api_Item zv6) 33::frzE w0 Z_ s_::G_)) | _=>(Wd w0 (cellsE ((g147 0).1) (zl0 b13 b16) 104::cellsE b18 (zl6 b16) 104::cellsE b16 zl22 133::cellsE b15 (zl6 b13) 104::cellsE b13 zl21 133::cellsE b12 [.string (⟨#[105,110,115,116,97,108,108]⟩),.slice (some ⟨((g147 0).1),0,none⟩) 4 4] 98::cellsE b11 (Cd.cs c_api_Item (zv5,{ zv4 with f_Kind:=t10 })) 33::rowE cStr 9 p4 c5 t3::cellsE b1 (Cd.cs c_api_Item zv6) 33::frzE w0 Z_ s_::G_))) 2 (by kernel_rfl) (by kernel_rfl) (by kernel_rfl) (by kernel_rfl) (by kernel_rfl) ⟨fun _ _ _=>rfl,fun _ _ _=>rfl,fun _ _ _=>rfl,fun _ _ _=>rfl,fun g147 g2 h=>by show (.slice (some ⟨((g147 0).1),0,none⟩) 4 4 : Value) = .slice (some ⟨((g2 0).1),0,none⟩) 4 4; rw [h 0 (show 0 < 1 by decide)],fun g147 g2 h=>by show (.agg #[.string (⟨#[105,110,115,116,97,108,108]⟩),.slice (some ⟨((g147 0).1),0,none⟩) 4 4] : Value) = .agg #[.string (⟨#[105,110,115,116,97,108,108]⟩),.slice (some ⟨((g2 0).1),0,none⟩) 4 4]; rw [h 0 (show 0 < 1 by decide)],fun _ _ _=>rfl,fun _ _ _=>rfl,trivial⟩ (by kernel_rfl) (fun w_ h=>⟨fun _=>g3 0 none 0 none w_,h.drew⟩) ⟨?_,?_,?_,?_,?_,?_,?_,?_,trivial⟩ ?_
  ·intro Lx g147 s K hl hh k
   show At 46 ((2,_)::(4,_)::(5,_)::Lx) _ _
   obtain rfl : s = 0:=by omega
   refine at_callB func81 rfl (by kernel_rfl) rfl rfl (fun w1 hw=>script_key_ok () rfl w1) ?_
   exact at_nil k
  ·intro Lx g147 s K hl hh k
   show At 46 ((2,_)::(4,_)::(5,_)::Lx) _ _
   obtain rfl : s = 0:=by omega
   refine av rfl (r_load_agg (l:=(zl6 b13)) isAgg104 sizeOf104 rfl rfl (fun w1 hw=>cells_mid (pre:=[]) (suf:=[]) (hw.ok (Upd.mem (.s (.s .z)))) (List.append_nil _).symm rfl)) ?_
   exact at_nil k
  ·intro Lx g147 s K hl hh k
   show At 46 ((2,_)::(4,_)::(5,_)::Lx) _ _
   obtain rfl : s = 0:=by omega
   refine av rfl (r_load_agg (l:=(zl6 b16)) isAgg104 sizeOf104 rfl rfl (fun w1 hw=>cells_mid (pre:=[]) (suf:=[]) (hw.ok (Upd.mem .z)) (List.append_nil _).symm rfl)) ?_
   exact at_nil k
  ·intro Lx g147 s K hl hh k
   show At 46 ((2,_)::(4,_)::(5,_)::Lx) _ _
   obtain rfl : s = 0:=by omega
   refine at_callB func82 rfl (by kernel_rfl) rfl rfl (fun w1 hw=>script_next_ok () rfl w1) ?_
   exact at_nil k
  ·intro Lx g147 K k
   show At 46 ((34,_)::(35,_)::(36,_)::(37,_)::(2,_)::(4,_)::(5,_)::Lx) _ _
   refine at_litG (cs:=(zl0 b13 b16)) underlying96 sizeOf104 zeroValue104 rfl rfl rfl (by kernel_rfl) rfl ?_
   intro b146
   exact at_nil (k (g3 b146 none 0 none w0))
  ·intro Lx g147 s K hl hh k
   show At 46 ((38,_)::(2,_)::(4,_)::(5,_)::Lx) _ _
   obtain rfl : s = 1:=by omega
   refine av rfl (r_build_struct (zs:=zl19) (cs:=[.string (⟨#[105,110,115,116,97,108,108]⟩),.slice (some ⟨((g147 0).1),0,none⟩) 4 4]) underlying98 zeroValue98 rfl placesR_98 rfl rfl) ?_
   exact at_nil k
  ·intro Lx g147 K k
   show At 46 ((39,_)::(2,_)::(4,_)::(5,_)::Lx) _ _
   refine sa 2 ([.string (⟨#[105,110,115,116,97,108,108]⟩),.slice (some ⟨((g147 0).1),0,none⟩) 4 4]) (.s (.s (.s (.s (.s .z))))) rfl rfl sizeOf98 rfl rfl rfl ?_
   exact at_nil k
  ·intro Lx g147 s K hl hh k
   show At 46 ((2,_)::(4,_)::(5,_)::Lx) _ _
   refine aa rfl rfl ?_
   exact at_nil k
  intro g147
  show At 46 [(34,_),(35,_),(36,_),(37,_),(38,_),(39,_),(3,_),(2,_),(4,_),(5,_)] _ _
  refine at_drop (H:=_) (.s .z) ?_
  refine at_drop (H:=_) (.s (.s .z)) ?_
  refine wq [3,2] rfl ?_
  refine tn ?_
  refine at_ret ?_
  refine at_blk_ret (at_then_ret ?_)
  refine at_resI2 rfl (res_cell (c:=cK 2 (by decide)) (y:=ck 2 ([.string (⟨#[105,110,115,116,97,108,108]⟩),.slice (some ⟨(g147 0).1,0,none⟩) 4 4]) rfl) rfl (.s (.s (.s .z))) (Lens.whole _ _) isAgg98 sizeOf98 (.inl rfl)) (res_tmp rfl) ?_
  refine am rfl rfl ?_
  refine av rfl (r_extract rfl rfl) ?_
  refine av rfl (r_extract rfl rfl) ?_
  refine at_alloc (cs:=zl19) zeroValue98 rfl rfl ?_
  intro b148
  refine sa 2 ([.string (⟨#[105,110,115,116,97,108,108]⟩),.slice (some ⟨(g147 0).1,0,none⟩) 4 4]) .z rfl rfl sizeOf98 rfl rfl rfl ?_
  refine aa rfl rfl ?_
  refine at_nil ?_
  refine at_drop (H:=_) (.s (.s (.s (.s .z)))) ?_
  refine wq [7,6,5,4,2] rfl ?_
  refine tn ?_
  refine at_seq ?_
  refine at_block ?_
  refine sr ?_
  refine am rfl rfl ?_
  refine av rfl (r_not rfl) ?_
  refine aa rfl rfl ?_
  refine nwq [25,6,5,4,2] rfl ?_
  refine cf rfl rfl ?_
  refine sr ?_
  refine am rfl rfl ?_
  refine av rfl (r_len_sl underlying38 rfl) ?_
  refine av rfl (r_isub rfl rfl) ?_
  refine fa 1 underlying98 rfl rfl sizeOf96 rfl rfl ?_
  refine av rfl (r_load_cell isAgg96 rfl (fun w1 hw=>cells_get (hw.ok (Upd.mem .z)) 1 _ rfl)) ?_
  refine av rfl (r_len_sl underlying96 rfl) ?_
  refine av rfl (r_ineq rfl rfl) ?_
  refine aa rfl rfl ?_
  refine nwq [29,6,5,4,2] rfl ?_
  rcases oi hF with ⟨h149,hF⟩|⟨h149,hF⟩
  ·refine ct rfl h149 ?_
   refine sr ?_
   refine av rfl (r_build_struct (zs:=Cd.cs c_api_Item zv6) (cs:=Cd.cs c_api_Item zv6) underlying33 zeroValue33 rfl (places_api_Item_33) rfl rfl) ?_
   refine at_store (c:=c_api_Item) (z:=zv6) (.s (.s (.s (.s (.s (.s .z)))))) (Lens.whole _ _) sizeOf33 rfl rfl rfl ?_
   refine aa rfl rfl ?_
   refine at_nil ?_
   refine dz ?_
   refine dz ?_
   refine dz ?_
   refine dz ?_
   refine dz ?_
   refine dz ?_
   refine wq [3,2] rfl ?_
   refine tn ?_
   refine at_ret ?_
   refine at_blk_ret (at_then_ret ?_)
   have hN150 : NK_api_Item (KZ w0 Z_) s_ zv6:=⟨RowK.nil ..,RowK.nil ..⟩
   have K:=of_some hF
   subst K
   exact at_res2 rfl (res_cell (c:=c_api_Item) (y:=zv6) rfl .z (Lens.whole _ _) isAgg33 sizeOf33 (.inl rfl)) (res_tmp rfl) (fun w1 hw=>⟨Z_,s_,zv5,hM_,rfl,hN150,hw.pop⟩)
  refine cf rfl h149 ?_
  refine at_skip ?_
  refine at_blk_normal (at_then_normal ?_)
  refine at_seq ?_
  refine sr ?_
  refine fa 1 underlying98 rfl rfl sizeOf96 rfl rfl ?_
  refine av rfl (r_load_cell isAgg96 rfl (fun w1 hw=>cells_get (hw.ok (Upd.mem .z)) 1 _ rfl)) ?_
  refine av rfl (r_len_sl underlying96 rfl) ?_
  refine am rfl rfl ?_
  refine at_nil ?_
  refine dz ?_
  refine wq [41,40,39,5,4,2] rfl ?_
  refine tn ?_
  refine at_block ?_
  refine wq [41,40,39,5,4,2] rfl ?_
  refine at_loop ?_
  refine at_round ?_
  refine sr ?_
  refine av rfl (r_ilss rfl rfl) ?_
  refine at_fix (g:=42) rfl (show (decide (0 < 4)) = true from by decide) ?_
  refine nwq [42,41,40,39,5,4,2] rfl ?_
  refine at_seq ?_
  refine ct rfl rfl ?_
  refine sn ?_
  refine at_seq ?_
  refine at_block ?_
  refine sr ?_
  refine am rfl rfl ?_
  refine av rfl (r_idx underlying96 sizeOf104 rfl rfl (by decide) rfl) ?_
  refine av rfl (r_load_agg (l:=zl9) isAgg104 sizeOf104 rfl rfl (fun w1 hw=>cells_mid (pre:=[]) (suf:=(zl1 b13 b16)) (hw.ok (Upd.mem .z)) rfl rfl)) ?_
  refine at_alloc (cs:=zl20) zeroValue104 rfl rfl ?_
  intro b151
  refine aa rfl rfl ?_
  refine sa 3 (zl9) .z rfl rfl sizeOf104 rfl rfl rfl ?_
  refine nt ?_
  refine at_seq ?_
  refine wq [41,40,39,9,8,5,4,2] rfl ?_
  obtain ⟨h152,hF⟩:=of_guard hF
  refine at_pure (φ:=∃ b o,p4 = some ⟨b,o,none⟩) (fun _ hw=>row_ptr (hw.own (.s (.s (.s (.s (.s .z)))))).row h152) ?_
  rintro ⟨b154,o155,hp153⟩
  refine at_invT [.q 46 (fun g156=>.pointer (some ⟨b151,0 + 1,none⟩)) [] 0 0,.q 47 (fun g156=>.func (.func 137) #[] #[]) [0] 0 0,.q 48 (fun g156=>.slice p4 t3.length c5) [] 0 0,.q 49 (fun g156=>.int .i64 0) [] 0 0,.q 50 (fun g156=>.int .i64 (wr .i64 (0 + 1))) [3] 0 0,.q 51 (fun g156=>.pointer (some ⟨b154,o155 + Int.toNat (wr .i64 (0 + 1)) * 1,none⟩)) [2,4] 0 0,.q 52 (fun g156=>.string (lget t3 (wr .i64 (0 + 1)))) [5] 0 0] (fun g156 s=>match s with | _=>(Wd w0 (cellsE b151 zl9 104::cellsE (g147 0).1 (zl0 b13 b16) 104::cellsE b16 zl22 133::cellsE b13 zl21 133::cellsE b11 (Cd.cs c_api_Item (zv5,{ zv4 with f_Kind:=t10 })) 33::rowE cStr 9 p4 c5 t3::cellsE b1 (Cd.cs c_api_Item zv6) 33::frzE w0 Z_ s_::G_))) 0 7 (by kernel_rfl) (by kernel_rfl) (by kernel_rfl) (by kernel_rfl) (by kernel_rfl) (by kernel_rfl) ⟨fun _ _ _=>rfl,fun _ _ _=>rfl,fun _ _ _=>rfl,fun _ _ _=>rfl,fun _ _ _=>rfl,fun _ _ _=>rfl,fun _ _ _=>rfl,trivial⟩ (by kernel_rfl) (fun w_ h=>⟨fun _=>g3 0 none 0 none w_,h.drew⟩) ⟨?_,?_,?_,?_,?_,?_,?_,trivial⟩ ?_
  ·intro Lx g156 s K hl hh k
   show At 60 ((2,_)::(4,_)::(5,_)::(8,_)::(9,_)::(39,_)::(40,_)::(41,_)::Lx) _ _
   refine fa 1 underlying104 rfl rfl sizeOf101 rfl rfl ?_
   exact at_nil k
  ·intro Lx g156 s K hl hh k
   show At 60 ((46,_)::(2,_)::(4,_)::(5,_)::(8,_)::(9,_)::(39,_)::(40,_)::(41,_)::Lx) _ _
   obtain rfl : s = 0:=by omega
   refine av rfl (r_load_cell isAgg101 rfl (fun w1 hw=>cells_get (hw.ok (Upd.mem .z)) 1 _ rfl)) ?_
   exact at_nil k
  ·intro Lx g156 s K hl hh k
   show At 60 ((2,_)::(4,_)::(5,_)::(8,_)::(9,_)::(39,_)::(40,_)::(41,_)::Lx) _ _
   refine am rfl rfl ?_
   exact at_nil k
  ·intro Lx g156 s K hl hh k
   show At 60 ((2,_)::(4,_)::(5,_)::(8,_)::(9,_)::(39,_)::(40,_)::(41,_)::Lx) _ _
   refine am rfl rfl ?_
   exact at_nil k
  ·intro Lx g156 s K hl hh k
   show At 60 ((49,_)::(2,_)::(4,_)::(5,_)::(8,_)::(9,_)::(39,_)::(40,_)::(41,_)::Lx) _ _
   refine av rfl (r_iadd rfl rfl) ?_
   exact at_nil k
  ·intro Lx g156 s K hl hh k
   show At 60 ((48,_)::(50,_)::(2,_)::(4,_)::(5,_)::(8,_)::(9,_)::(39,_)::(40,_)::(41,_)::Lx) _ _
   refine av rfl (r_idx underlying38 sizeOf9 rfl rfl h152 hp153) ?_
   exact at_nil k
  ·intro Lx g156 s K hl hh k
   show At 60 ((51,_)::(2,_)::(4,_)::(5,_)::(8,_)::(9,_)::(39,_)::(40,_)::(41,_)::Lx) _ _
   obtain rfl : s = 0:=by omega
   refine av rfl (r_load_cell isAgg9 rfl (fun _ hw=>row_cell0 (W:=fun w1=>w1 = _) (fun w1 h=>by subst h; exact Below.refl _ _) (hw.own (.s (.s (.s (.s (.s .z)))))).row h152 hp153 rfl _ rfl)) ?_
   exact at_nil k
  intro g156
  show At 60 [(46,_),(47,_),(48,_),(49,_),(50,_),(51,_),(52,_),(2,_),(4,_),(5,_),(8,_),(9,_),(39,_),(40,_),(41,_)] _ _
  refine at_callee rfl ?_
  refine at_callI func137 rfl (by kernel_rfl) rfl rfl rfl rfl ?_
  refine dz ?_
  refine sr ?_
  refine aa rfl rfl ?_
  refine ns ?_
  refine am rfl rfl ?_
  refine am rfl rfl ?_
  obtain ⟨t157,ht157,hF⟩:=of_bindM hF
  refine at_callB func94 rfl (by kernel_rfl) rfl rfl (fun w hw=>keys_ParseHex_ok _ _ ht157 w) ?_
  refine am rfl rfl ?_
  refine av rfl (r_extract rfl rfl) ?_
  refine av rfl (r_extract rfl rfl) ?_
  refine av rfl (r_nilCheck rfl) ?_
  refine fa 22 underlying33 rfl rfl sizeOf29 rfl rfl ?_
  refine at_store (c:=(cVec (cInt .u8) 32 (by decide))) (z:=t157.1) (.s (.s (.s .z))) (c_api_Item_f_Key zv5 ({ zv4 with f_Kind:=t10 })) sizeOf29 rfl rfl rfl ?_
  refine aa rfl rfl ?_
  refine ns ?_
  refine am rfl rfl ?_
  refine aa rfl rfl ?_
  refine nwq [4] rfl ?_
  refine at_ret ?_
  refine at_retI1 rfl rfl ?_
  refine aa rfl rfl ?_
  refine ns ?_
  refine am rfl rfl ?_
  refine av rfl (r_ineq rfl rfl) ?_
  refine nwq [55,41,40,39,10,5,4,2] rfl ?_
  rcases oi hF with ⟨h158,hF⟩|⟨h158,hF⟩
  ·refine ct rfl h158 ?_
   refine sr ?_
   refine av rfl (r_build_struct (zs:=Cd.cs c_api_Item zv6) (cs:=Cd.cs c_api_Item zv6) underlying33 zeroValue33 rfl (places_api_Item_33) rfl rfl) ?_
   refine am rfl rfl ?_
   refine at_store (c:=c_api_Item) (z:=zv6) (.s (.s (.s (.s (.s .z))))) (Lens.whole _ _) sizeOf33 rfl rfl rfl ?_
   refine aa rfl rfl ?_
   refine at_nil ?_
   refine dz ?_
   refine dz ?_
   refine dz ?_
   refine dz ?_
   refine dz ?_
   refine wq [3,2] rfl ?_
   refine tn ?_
   refine at_ret ?_
   refine at_blk_ret (at_then_ret (at_then_ret (at_blk_ret (at_then_ret ?_))))
   have hN159 : NK_api_Item (KZ w0 Z_) s_ zv6:=⟨RowK.nil ..,RowK.nil ..⟩
   have K:=of_some hF
   subst K
   exact at_res2 rfl (res_cell (c:=c_api_Item) (y:=zv6) rfl .z (Lens.whole _ _) isAgg33 sizeOf33 (.inl rfl)) (res_tmp rfl) (fun w1 hw=>⟨Z_,s_,zv5,hM_,rfl,hN159,hw.pop⟩)
  refine cf rfl h158 ?_
  refine at_skip ?_
  refine at_blk_normal (at_then_normal ?_)
  refine at_region ?_
  refine av rfl (r_iadd rfl rfl) ?_
  refine at_ov (t:=58) rfl (show Value.int .i64 (wr .i64 (0 + 1)) = .int .i64 1 from by rfl) ?_
  refine am rfl rfl ?_
  refine nt ?_
  refine wq [41,40,39,5,4,2] rfl ?_
  refine at_round ?_
  refine sr ?_
  refine av rfl (r_ilss rfl rfl) ?_
  refine at_fix (g:=42) rfl (show (decide (1 < 4)) = true from by decide) ?_
  refine nwq [42,41,40,39,5,4,2] rfl ?_
  refine at_seq ?_
  refine ct rfl rfl ?_
  refine sn ?_
  refine at_seq ?_
  refine at_block ?_
  refine sr ?_
  refine am rfl rfl ?_
  refine av rfl (r_idx underlying96 sizeOf104 rfl rfl (by decide) rfl) ?_
  refine av rfl (r_load_agg (l:=(zl6 b13)) isAgg104 sizeOf104 rfl rfl (fun w1 hw=>cells_mid (pre:=zl9) (suf:=(zl3 b16)) (hw.ok (Upd.mem .z)) rfl rfl)) ?_
  refine at_alloc (cs:=zl20) zeroValue104 rfl rfl ?_
  intro b160
  refine aa rfl rfl ?_
  refine sa 3 ((zl6 b13)) .z rfl rfl sizeOf104 rfl rfl rfl ?_
  refine nt ?_
  refine at_seq ?_
  refine wq [41,40,39,9,8,5,4,2] rfl ?_
  obtain ⟨h161,hF⟩:=of_guard hF
  refine at_pure (φ:=∃ b o,p4 = some ⟨b,o,none⟩) (fun _ hw=>row_ptr (hw.own (.s (.s (.s (.s (.s .z)))))).row h161) ?_
  rintro ⟨b163,o164,hp162⟩
  refine at_invT [.q 46 (fun g165=>.pointer (some ⟨b160,0 + 1,none⟩)) [] 0 0,.q 47 (fun g165=>.func (.func 123) #[] #[.pointer (some ⟨b13,0,none⟩)]) [0] 0 0,.q 48 (fun g165=>.slice p4 t3.length c5) [] 0 0,.q 49 (fun g165=>.int .i64 1) [] 0 0,.q 50 (fun g165=>.int .i64 (wr .i64 (1 + 1))) [3] 0 0,.q 51 (fun g165=>.pointer (some ⟨b163,o164 + Int.toNat (wr .i64 (1 + 1)) * 1,none⟩)) [2,4] 0 0,.q 52 (fun g165=>.string (lget t3 (wr .i64 (1 + 1)))) [5] 0 0] (fun g165 s=>match s with | _=>(Wd w0 (cellsE b160 (zl6 b13) 104::cellsE (g147 0).1 (zl0 b13 b16) 104::cellsE b16 zl22 133::cellsE b13 zl21 133::cellsE b11 (Cd.cs c_api_Item (zv5,{ { zv4 with f_Kind:=t10 } with f_Key:=t157.1 })) 33::rowE cStr 9 p4 c5 t3::cellsE b1 (Cd.cs c_api_Item zv6) 33::frzE w0 Z_ s_::G_))) 0 7 (by kernel_rfl) (by kernel_rfl) (by kernel_rfl) (by kernel_rfl) (by kernel_rfl) (by kernel_rfl) ⟨fun _ _ _=>rfl,fun _ _ _=>rfl,fun _ _ _=>rfl,fun _ _ _=>rfl,fun _ _ _=>rfl,fun _ _ _=>rfl,fun _ _ _=>rfl,trivial⟩ (by kernel_rfl) (fun w_ h=>⟨fun _=>g3 0 none 0 none w_,h.drew⟩) ⟨?_,?_,?_,?_,?_,?_,?_,trivial⟩ ?_
  ·intro Lx g165 s K hl hh k
   show At 60 ((2,_)::(4,_)::(5,_)::(8,_)::(9,_)::(39,_)::(40,_)::(41,_)::Lx) _ _
   refine fa 1 underlying104 rfl rfl sizeOf101 rfl rfl ?_
   exact at_nil k
  ·intro Lx g165 s K hl hh k
   show At 60 ((46,_)::(2,_)::(4,_)::(5,_)::(8,_)::(9,_)::(39,_)::(40,_)::(41,_)::Lx) _ _
   obtain rfl : s = 0:=by omega
   refine av rfl (r_load_cell isAgg101 rfl (fun w1 hw=>cells_get (hw.ok (Upd.mem .z)) 1 _ rfl)) ?_
   exact at_nil k
  ·intro Lx g165 s K hl hh k
   show At 60 ((2,_)::(4,_)::(5,_)::(8,_)::(9,_)::(39,_)::(40,_)::(41,_)::Lx) _ _
   refine am rfl rfl ?_
   exact at_nil k
  ·intro Lx g165 s K hl hh k
   show At 60 ((2,_)::(4,_)::(5,_)::(8,_)::(9,_)::(39,_)::(40,_)::(41,_)::Lx) _ _
   refine am rfl rfl ?_
   exact at_nil k
  ·intro Lx g165 s K hl hh k
   show At 60 ((49,_)::(2,_)::(4,_)::(5,_)::(8,_)::(9,_)::(39,_)::(40,_)::(41,_)::Lx) _ _
   refine av rfl (r_iadd rfl rfl) ?_
   exact at_nil k
  ·intro Lx g165 s K hl hh k
   show At 60 ((48,_)::(50,_)::(2,_)::(4,_)::(5,_)::(8,_)::(9,_)::(39,_)::(40,_)::(41,_)::Lx) _ _
   refine av rfl (r_idx underlying38 sizeOf9 rfl rfl h161 hp162) ?_
   exact at_nil k
  ·intro Lx g165 s K hl hh k
   show At 60 ((51,_)::(2,_)::(4,_)::(5,_)::(8,_)::(9,_)::(39,_)::(40,_)::(41,_)::Lx) _ _
   obtain rfl : s = 0:=by omega
   refine av rfl (r_load_cell isAgg9 rfl (fun _ hw=>row_cell0 (W:=fun w1=>w1 = _) (fun w1 h=>by subst h; exact Below.refl _ _) (hw.own (.s (.s (.s (.s (.s .z)))))).row h161 hp162 rfl _ rfl)) ?_
   exact at_nil k
  intro g165
  show At 60 [(46,_),(47,_),(48,_),(49,_),(50,_),(51,_),(52,_),(2,_),(4,_),(5,_),(8,_),(9,_),(39,_),(40,_),(41,_)] _ _
  refine at_calleeC (caps:=[.pointer (some ⟨b13,0,none⟩)]) rfl ?_
  refine at_callI func123 rfl (by kernel_rfl) rfl rfl rfl rfl ?_
  refine dz ?_
  refine sr ?_
  refine aa rfl rfl ?_
  refine ns ?_
  refine am rfl rfl ?_
  obtain ⟨t166,ht166,hF⟩:=of_bindM hF
  refine at_callB func111 rfl (by kernel_rfl) rfl rfl (fun w hw=>decimal_Read_ok _ _ _ ht166 w (hg_strconv_ErrRange.on hw.below) (hg_strconv_ErrSyntax.on hw.below)) ?_
  refine am rfl rfl ?_
  refine av rfl (r_extract rfl rfl) ?_
  refine av rfl (r_extract rfl rfl) ?_
  refine aa rfl rfl ?_
  refine aa rfl rfl ?_
  refine nwx [7,6,2,0] rfl ?_
  refine av rfl (r_load_cell isAgg133 rfl (fun w1 hw=>cells_get (hw.ok (Upd.mem (.s (.s .z)))) 0 _ rfl)) ?_
  refine am rfl rfl ?_
  refine at_callee rfl ?_
  refine at_callI func76 rfl (by kernel_rfl) rfl rfl rfl rfl ?_
  refine sr ?_
  refine aa rfl rfl ?_
  refine ns ?_
  refine am rfl rfl ?_
  refine av rfl (r_nilCheck rfl) ?_
  refine fa 54 underlying33 rfl rfl sizeOf30 rfl rfl ?_
  refine aa rfl rfl ?_
  refine nwq [2] rfl ?_
  refine at_ret ?_
  refine at_retI1 rfl rfl ?_
  refine am rfl rfl ?_
  refine av rfl (r_conv underlying31 underlying30 rfl) ?_
  refine av rfl (r_nilCheck rfl) ?_
  refine at_store (c:=(cInt .u32)) (z:=wr .u32 t166.1) (.s (.s (.s .z))) (c_api_Item_f_Local zv5 ({ { zv4 with f_Kind:=t10 } with f_Key:=t157.1 })) sizeOf30 rfl rfl rfl ?_
  refine ns ?_
  refine am rfl rfl ?_
  refine aa rfl rfl ?_
  refine nwq [5] rfl ?_
  refine at_ret ?_
  refine at_retI1 rfl rfl ?_
  refine aa rfl rfl ?_
  refine ns ?_
  refine am rfl rfl ?_
  refine av rfl (r_ineq rfl rfl) ?_
  refine nwq [55,41,40,39,10,5,4,2] rfl ?_
  rcases oi hF with ⟨h167,hF⟩|⟨h167,hF⟩
  ·refine ct rfl h167 ?_
   refine sr ?_
   refine av rfl (r_build_struct (zs:=Cd.cs c_api_Item zv6) (cs:=Cd.cs c_api_Item zv6) underlying33 zeroValue33 rfl (places_api_Item_33) rfl rfl) ?_
   refine am rfl rfl ?_
   refine at_store (c:=c_api_Item) (z:=zv6) (.s (.s (.s (.s (.s .z))))) (Lens.whole _ _) sizeOf33 rfl rfl rfl ?_
   refine aa rfl rfl ?_
   refine at_nil ?_
   refine dz ?_
   refine dz ?_
   refine dz ?_
   refine dz ?_
   refine dz ?_
   refine wq [3,2] rfl ?_
   refine tn ?_
   refine at_ret ?_
   refine at_blk_ret (at_then_ret (at_then_ret (at_blk_ret (at_then_ret ?_))))
   have hN168 : NK_api_Item (KZ w0 Z_) s_ zv6:=⟨RowK.nil ..,RowK.nil ..⟩
   have K:=of_some hF
   subst K
   exact at_res2 rfl (res_cell (c:=c_api_Item) (y:=zv6) rfl .z (Lens.whole _ _) isAgg33 sizeOf33 (.inl rfl)) (res_tmp rfl) (fun w1 hw=>⟨Z_,s_,zv5,hM_,rfl,hN168,hw.pop⟩)
  refine cf rfl h167 ?_
  refine at_skip ?_
  refine at_blk_normal (at_then_normal ?_)
  refine at_region ?_
  refine av rfl (r_iadd rfl rfl) ?_
  refine at_ov (t:=58) rfl (show Value.int .i64 (wr .i64 (1 + 1)) = .int .i64 2 from by rfl) ?_
  refine am rfl rfl ?_
  refine nt ?_
  refine wq [41,40,39,5,4,2] rfl ?_
  refine at_round ?_
  refine sr ?_
  refine av rfl (r_ilss rfl rfl) ?_
  refine at_fix (g:=42) rfl (show (decide (2 < 4)) = true from by decide) ?_
  refine nwq [42,41,40,39,5,4,2] rfl ?_
  refine at_seq ?_
  refine ct rfl rfl ?_
  refine sn ?_
  refine at_seq ?_
  refine at_block ?_
  refine sr ?_
  refine am rfl rfl ?_
  refine av rfl (r_idx underlying96 sizeOf104 rfl rfl (by decide) rfl) ?_
  refine av rfl (r_load_agg (l:=(zl6 b16)) isAgg104 sizeOf104 rfl rfl (fun w1 hw=>cells_mid (pre:=(zl4 b13)) (suf:=zl10) (hw.ok (Upd.mem .z)) rfl rfl)) ?_
  refine at_alloc (cs:=zl20) zeroValue104 rfl rfl ?_
  intro b169
  refine aa rfl rfl ?_
  refine sa 3 ((zl6 b16)) .z rfl rfl sizeOf104 rfl rfl rfl ?_
  refine nt ?_
  refine at_seq ?_
  refine wq [41,40,39,9,8,5,4,2] rfl ?_
  obtain ⟨h170,hF⟩:=of_guard hF
  refine at_pure (φ:=∃ b o,p4 = some ⟨b,o,none⟩) (fun _ hw=>row_ptr (hw.own (.s (.s (.s (.s (.s .z)))))).row h170) ?_
  rintro ⟨b172,o173,hp171⟩
  refine at_invT [.q 46 (fun g174=>.pointer (some ⟨b169,0 + 1,none⟩)) [] 0 0,.q 47 (fun g174=>.func (.func 123) #[] #[.pointer (some ⟨b16,0,none⟩)]) [0] 0 0,.q 48 (fun g174=>.slice p4 t3.length c5) [] 0 0,.q 49 (fun g174=>.int .i64 2) [] 0 0,.q 50 (fun g174=>.int .i64 (wr .i64 (2 + 1))) [3] 0 0,.q 51 (fun g174=>.pointer (some ⟨b172,o173 + Int.toNat (wr .i64 (2 + 1)) * 1,none⟩)) [2,4] 0 0,.q 52 (fun g174=>.string (lget t3 (wr .i64 (2 + 1)))) [5] 0 0] (fun g174 s=>match s with | _=>(Wd w0 (cellsE b169 (zl6 b16) 104::cellsE (g147 0).1 (zl0 b13 b16) 104::cellsE b16 zl22 133::cellsE b13 zl21 133::cellsE b11 (Cd.cs c_api_Item (zv5,{ { { zv4 with f_Kind:=t10 } with f_Key:=t157.1 } with f_Local:=wr .u32 t166.1 })) 33::rowE cStr 9 p4 c5 t3::cellsE b1 (Cd.cs c_api_Item zv6) 33::frzE w0 Z_ s_::G_))) 0 7 (by kernel_rfl) (by kernel_rfl) (by kernel_rfl) (by kernel_rfl) (by kernel_rfl) (by kernel_rfl) ⟨fun _ _ _=>rfl,fun _ _ _=>rfl,fun _ _ _=>rfl,fun _ _ _=>rfl,fun _ _ _=>rfl,fun _ _ _=>rfl,fun _ _ _=>rfl,trivial⟩ (by kernel_rfl) (fun w_ h=>⟨fun _=>g3 0 none 0 none w_,h.drew⟩) ⟨?_,?_,?_,?_,?_,?_,?_,trivial⟩ ?_
  ·intro Lx g174 s K hl hh k
   show At 60 ((2,_)::(4,_)::(5,_)::(8,_)::(9,_)::(39,_)::(40,_)::(41,_)::Lx) _ _
   refine fa 1 underlying104 rfl rfl sizeOf101 rfl rfl ?_
   exact at_nil k
  ·intro Lx g174 s K hl hh k
   show At 60 ((46,_)::(2,_)::(4,_)::(5,_)::(8,_)::(9,_)::(39,_)::(40,_)::(41,_)::Lx) _ _
   obtain rfl : s = 0:=by omega
   refine av rfl (r_load_cell isAgg101 rfl (fun w1 hw=>cells_get (hw.ok (Upd.mem .z)) 1 _ rfl)) ?_
   exact at_nil k
  ·intro Lx g174 s K hl hh k
   show At 60 ((2,_)::(4,_)::(5,_)::(8,_)::(9,_)::(39,_)::(40,_)::(41,_)::Lx) _ _
   refine am rfl rfl ?_
   exact at_nil k
  ·intro Lx g174 s K hl hh k
   show At 60 ((2,_)::(4,_)::(5,_)::(8,_)::(9,_)::(39,_)::(40,_)::(41,_)::Lx) _ _
   refine am rfl rfl ?_
   exact at_nil k
  ·intro Lx g174 s K hl hh k
   show At 60 ((49,_)::(2,_)::(4,_)::(5,_)::(8,_)::(9,_)::(39,_)::(40,_)::(41,_)::Lx) _ _
   refine av rfl (r_iadd rfl rfl) ?_
   exact at_nil k
  ·intro Lx g174 s K hl hh k
   show At 60 ((48,_)::(50,_)::(2,_)::(4,_)::(5,_)::(8,_)::(9,_)::(39,_)::(40,_)::(41,_)::Lx) _ _
   refine av rfl (r_idx underlying38 sizeOf9 rfl rfl h170 hp171) ?_
   exact at_nil k
  ·intro Lx g174 s K hl hh k
   show At 60 ((51,_)::(2,_)::(4,_)::(5,_)::(8,_)::(9,_)::(39,_)::(40,_)::(41,_)::Lx) _ _
   obtain rfl : s = 0:=by omega
   refine av rfl (r_load_cell isAgg9 rfl (fun _ hw=>row_cell0 (W:=fun w1=>w1 = _) (fun w1 h=>by subst h; exact Below.refl _ _) (hw.own (.s (.s (.s (.s (.s .z)))))).row h170 hp171 rfl _ rfl)) ?_
   exact at_nil k
  intro g174
  show At 60 [(46,_),(47,_),(48,_),(49,_),(50,_),(51,_),(52,_),(2,_),(4,_),(5,_),(8,_),(9,_),(39,_),(40,_),(41,_)] _ _
  refine at_calleeC (caps:=[.pointer (some ⟨b16,0,none⟩)]) rfl ?_
  refine at_callI func123 rfl (by kernel_rfl) rfl rfl rfl rfl ?_
  refine dz ?_
  refine sr ?_
  refine aa rfl rfl ?_
  refine ns ?_
  refine am rfl rfl ?_
  obtain ⟨t175,ht175,hF⟩:=of_bindM hF
  refine at_callB func111 rfl (by kernel_rfl) rfl rfl (fun w hw=>decimal_Read_ok _ _ _ ht175 w (hg_strconv_ErrRange.on hw.below) (hg_strconv_ErrSyntax.on hw.below)) ?_
  refine am rfl rfl ?_
  refine av rfl (r_extract rfl rfl) ?_
  refine av rfl (r_extract rfl rfl) ?_
  refine aa rfl rfl ?_
  refine aa rfl rfl ?_
  refine nwx [7,6,2,0] rfl ?_
  refine av rfl (r_load_cell isAgg133 rfl (fun w1 hw=>cells_get (hw.ok (Upd.mem (.s .z))) 0 _ rfl)) ?_
  refine am rfl rfl ?_
  refine at_callee rfl ?_
  refine at_callI func77 rfl (by kernel_rfl) rfl rfl rfl rfl ?_
  refine sr ?_
  refine aa rfl rfl ?_
  refine ns ?_
  refine am rfl rfl ?_
  refine av rfl (r_nilCheck rfl) ?_
  refine fa 55 underlying33 rfl rfl sizeOf30 rfl rfl ?_
  refine aa rfl rfl ?_
  refine nwq [2] rfl ?_
  refine at_ret ?_
  refine at_retI1 rfl rfl ?_
  refine am rfl rfl ?_
  refine av rfl (r_conv underlying31 underlying30 rfl) ?_
  refine av rfl (r_nilCheck rfl) ?_
  refine at_store (c:=(cInt .u32)) (z:=wr .u32 t175.1) (.s (.s (.s .z))) (c_api_Item_f_Remote zv5 ({ { { zv4 with f_Kind:=t10 } with f_Key:=t157.1 } with f_Local:=wr .u32 t166.1 })) sizeOf30 rfl rfl rfl ?_
  refine ns ?_
  refine am rfl rfl ?_
  refine aa rfl rfl ?_
  refine nwq [5] rfl ?_
  refine at_ret ?_
  refine at_retI1 rfl rfl ?_
  refine aa rfl rfl ?_
  refine ns ?_
  refine am rfl rfl ?_
  refine av rfl (r_ineq rfl rfl) ?_
  refine nwq [55,41,40,39,10,5,4,2] rfl ?_
  rcases oi hF with ⟨h176,hF⟩|⟨h176,hF⟩
  ·refine ct rfl h176 ?_
   refine sr ?_
   refine av rfl (r_build_struct (zs:=Cd.cs c_api_Item zv6) (cs:=Cd.cs c_api_Item zv6) underlying33 zeroValue33 rfl (places_api_Item_33) rfl rfl) ?_
   refine am rfl rfl ?_
   refine at_store (c:=c_api_Item) (z:=zv6) (.s (.s (.s (.s (.s .z))))) (Lens.whole _ _) sizeOf33 rfl rfl rfl ?_
   refine aa rfl rfl ?_
   refine at_nil ?_
   refine dz ?_
   refine dz ?_
   refine dz ?_
   refine dz ?_
   refine dz ?_
   refine wq [3,2] rfl ?_
   refine tn ?_
   refine at_ret ?_
   refine at_blk_ret (at_then_ret (at_then_ret (at_blk_ret (at_then_ret ?_))))
   have hN177 : NK_api_Item (KZ w0 Z_) s_ zv6:=⟨RowK.nil ..,RowK.nil ..⟩
   have K:=of_some hF
   subst K
   exact at_res2 rfl (res_cell (c:=c_api_Item) (y:=zv6) rfl .z (Lens.whole _ _) isAgg33 sizeOf33 (.inl rfl)) (res_tmp rfl) (fun w1 hw=>⟨Z_,s_,zv5,hM_,rfl,hN177,hw.pop⟩)
  refine cf rfl h176 ?_
  refine at_skip ?_
  refine at_blk_normal (at_then_normal ?_)
  refine at_region ?_
  refine av rfl (r_iadd rfl rfl) ?_
  refine at_ov (t:=58) rfl (show Value.int .i64 (wr .i64 (2 + 1)) = .int .i64 3 from by rfl) ?_
  refine am rfl rfl ?_
  refine nt ?_
  refine wq [41,40,39,5,4,2] rfl ?_
  refine at_round ?_
  refine sr ?_
  refine av rfl (r_ilss rfl rfl) ?_
  refine at_fix (g:=42) rfl (show (decide (3 < 4)) = true from by decide) ?_
  refine nwq [42,41,40,39,5,4,2] rfl ?_
  refine at_seq ?_
  refine ct rfl rfl ?_
  refine sn ?_
  refine at_seq ?_
  refine at_block ?_
  refine sr ?_
  refine am rfl rfl ?_
  refine av rfl (r_idx underlying96 sizeOf104 rfl rfl (by decide) rfl) ?_
  refine av rfl (r_load_agg (l:=zl10) isAgg104 sizeOf104 rfl rfl (fun w1 hw=>cells_mid (pre:=(zl2 b13 b16)) (suf:=[]) (hw.ok (Upd.mem .z)) rfl rfl)) ?_
  refine at_alloc (cs:=zl20) zeroValue104 rfl rfl ?_
  intro b178
  refine aa rfl rfl ?_
  refine sa 3 (zl10) .z rfl rfl sizeOf104 rfl rfl rfl ?_
  refine nt ?_
  refine at_seq ?_
  refine wq [41,40,39,9,8,5,4,2] rfl ?_
  obtain ⟨h179,hF⟩:=of_guard hF
  refine at_pure (φ:=∃ b o,p4 = some ⟨b,o,none⟩) (fun _ hw=>row_ptr (hw.own (.s (.s (.s (.s (.s .z)))))).row h179) ?_
  rintro ⟨b181,o182,hp180⟩
  refine at_invT [.q 46 (fun g183=>.pointer (some ⟨b178,0 + 1,none⟩)) [] 0 0,.q 47 (fun g183=>.func (.func 140) #[] #[]) [0] 0 0,.q 48 (fun g183=>.slice p4 t3.length c5) [] 0 0,.q 49 (fun g183=>.int .i64 3) [] 0 0,.q 50 (fun g183=>.int .i64 (wr .i64 (3 + 1))) [3] 0 0,.q 51 (fun g183=>.pointer (some ⟨b181,o182 + Int.toNat (wr .i64 (3 + 1)) * 1,none⟩)) [2,4] 0 0,.q 52 (fun g183=>.string (lget t3 (wr .i64 (3 + 1)))) [5] 0 0] (fun g183 s=>match s with | _=>(Wd w0 (cellsE b178 zl10 104::cellsE (g147 0).1 (zl0 b13 b16) 104::cellsE b16 zl22 133::cellsE b13 zl21 133::cellsE b11 (Cd.cs c_api_Item (zv5,{ { { { zv4 with f_Kind:=t10 } with f_Key:=t157.1 } with f_Local:=wr .u32 t166.1 } with f_Remote:=wr .u32 t175.1 })) 33::rowE cStr 9 p4 c5 t3::cellsE b1 (Cd.cs c_api_Item zv6) 33::frzE w0 Z_ s_::G_))) 0 7 (by kernel_rfl) (by kernel_rfl) (by kernel_rfl) (by kernel_rfl) (by kernel_rfl) (by kernel_rfl) ⟨fun _ _ _=>rfl,fun _ _ _=>rfl,fun _ _ _=>rfl,fun _ _ _=>rfl,fun _ _ _=>rfl,fun _ _ _=>rfl,fun _ _ _=>rfl,trivial⟩ (by kernel_rfl) (fun w_ h=>⟨fun _=>g3 0 none 0 none w_,h.drew⟩) ⟨?_,?_,?_,?_,?_,?_,?_,trivial⟩ ?_
  ·intro Lx g183 s K hl hh k
   show At 60 ((2,_)::(4,_)::(5,_)::(8,_)::(9,_)::(39,_)::(40,_)::(41,_)::Lx) _ _
   refine fa 1 underlying104 rfl rfl sizeOf101 rfl rfl ?_
   exact at_nil k
  ·intro Lx g183 s K hl hh k
   show At 60 ((46,_)::(2,_)::(4,_)::(5,_)::(8,_)::(9,_)::(39,_)::(40,_)::(41,_)::Lx) _ _
   obtain rfl : s = 0:=by omega
   refine av rfl (r_load_cell isAgg101 rfl (fun w1 hw=>cells_get (hw.ok (Upd.mem .z)) 1 _ rfl)) ?_
   exact at_nil k
  ·intro Lx g183 s K hl hh k
   show At 60 ((2,_)::(4,_)::(5,_)::(8,_)::(9,_)::(39,_)::(40,_)::(41,_)::Lx) _ _
   refine am rfl rfl ?_
   exact at_nil k
  ·intro Lx g183 s K hl hh k
   show At 60 ((2,_)::(4,_)::(5,_)::(8,_)::(9,_)::(39,_)::(40,_)::(41,_)::Lx) _ _
   refine am rfl rfl ?_
   exact at_nil k
  ·intro Lx g183 s K hl hh k
   show At 60 ((49,_)::(2,_)::(4,_)::(5,_)::(8,_)::(9,_)::(39,_)::(40,_)::(41,_)::Lx) _ _
   refine av rfl (r_iadd rfl rfl) ?_
   exact at_nil k
  ·intro Lx g183 s K hl hh k
   show At 60 ((48,_)::(50,_)::(2,_)::(4,_)::(5,_)::(8,_)::(9,_)::(39,_)::(40,_)::(41,_)::Lx) _ _
   refine av rfl (r_idx underlying38 sizeOf9 rfl rfl h179 hp180) ?_
   exact at_nil k
  ·intro Lx g183 s K hl hh k
   show At 60 ((51,_)::(2,_)::(4,_)::(5,_)::(8,_)::(9,_)::(39,_)::(40,_)::(41,_)::Lx) _ _
   obtain rfl : s = 0:=by omega
   refine av rfl (r_load_cell isAgg9 rfl (fun _ hw=>row_cell0 (W:=fun w1=>w1 = _) (fun w1 h=>by subst h; exact Below.refl _ _) (hw.own (.s (.s (.s (.s (.s .z)))))).row h179 hp180 rfl _ rfl)) ?_
   exact at_nil k
  intro g183
  show At 60 [(46,_),(47,_),(48,_),(49,_),(50,_),(51,_),(52,_),(2,_),(4,_),(5,_),(8,_),(9,_),(39,_),(40,_),(41,_)] _ _
  refine at_callee rfl ?_
  refine at_callI func140 rfl (by kernel_rfl) rfl rfl rfl rfl ?_
  refine dz ?_
  refine sr ?_
  refine aa rfl rfl ?_
  refine ns ?_
  refine am rfl rfl ?_
  refine am rfl rfl ?_
  obtain ⟨t184,ht184,hF⟩:=of_bindM hF
  refine at_callB func111 rfl (by kernel_rfl) rfl rfl (fun w hw=>decimal_Read_ok _ _ _ ht184 w (hg_strconv_ErrRange.on hw.below) (hg_strconv_ErrSyntax.on hw.below)) ?_
  refine am rfl rfl ?_
  refine av rfl (r_extract rfl rfl) ?_
  refine av rfl (r_extract rfl rfl) ?_
  refine av rfl (r_nilCheck rfl) ?_
  refine fa 56 underlying33 rfl rfl sizeOf31 rfl rfl ?_
  refine at_store (c:=(cInt .u64)) (z:=t184.1) (.s (.s (.s .z))) (c_api_Item_f_Next zv5 ({ { { { zv4 with f_Kind:=t10 } with f_Key:=t157.1 } with f_Local:=wr .u32 t166.1 } with f_Remote:=wr .u32 t175.1 })) sizeOf31 rfl rfl rfl ?_
  refine aa rfl rfl ?_
  refine ns ?_
  refine am rfl rfl ?_
  refine aa rfl rfl ?_
  refine nwq [4] rfl ?_
  refine at_ret ?_
  refine at_retI1 rfl rfl ?_
  refine aa rfl rfl ?_
  refine ns ?_
  refine am rfl rfl ?_
  refine av rfl (r_ineq rfl rfl) ?_
  refine nwq [55,41,40,39,10,5,4,2] rfl ?_
  rcases oi hF with ⟨h185,hF⟩|⟨h185,hF⟩
  ·refine ct rfl h185 ?_
   refine sr ?_
   refine av rfl (r_build_struct (zs:=Cd.cs c_api_Item zv6) (cs:=Cd.cs c_api_Item zv6) underlying33 zeroValue33 rfl (places_api_Item_33) rfl rfl) ?_
   refine am rfl rfl ?_
   refine at_store (c:=c_api_Item) (z:=zv6) (.s (.s (.s (.s (.s .z))))) (Lens.whole _ _) sizeOf33 rfl rfl rfl ?_
   refine aa rfl rfl ?_
   refine at_nil ?_
   refine dz ?_
   refine dz ?_
   refine dz ?_
   refine dz ?_
   refine dz ?_
   refine wq [3,2] rfl ?_
   refine tn ?_
   refine at_ret ?_
   refine at_blk_ret (at_then_ret (at_then_ret (at_blk_ret (at_then_ret ?_))))
   have hN186 : NK_api_Item (KZ w0 Z_) s_ zv6:=⟨RowK.nil ..,RowK.nil ..⟩
   have K:=of_some hF
   subst K
   exact at_res2 rfl (res_cell (c:=c_api_Item) (y:=zv6) rfl .z (Lens.whole _ _) isAgg33 sizeOf33 (.inl rfl)) (res_tmp rfl) (fun w1 hw=>⟨Z_,s_,zv5,hM_,rfl,hN186,hw.pop⟩)
  refine cf rfl h185 ?_
  refine at_skip ?_
  refine at_blk_normal (at_then_normal ?_)
  refine at_region ?_
  refine av rfl (r_iadd rfl rfl) ?_
  refine at_ov (t:=58) rfl (show Value.int .i64 (wr .i64 (3 + 1)) = .int .i64 4 from by rfl) ?_
  refine am rfl rfl ?_
  refine nt ?_
  refine wq [41,40,39,5,4,2] rfl ?_
  refine at_round ?_
  refine sr ?_
  refine av rfl (r_ilss rfl rfl) ?_
  refine at_fix (g:=42) rfl (show (decide (4 < 4)) = false from by decide) ?_
  refine nwq [42,41,40,39,5,4,2] rfl ?_
  refine at_seq ?_
  refine cf rfl rfl ?_
  refine at_exit ?_
  refine at_then_exit (at_then_exit ?_)
  refine at_blk_same ?_
  refine dz ?_
  refine dz ?_
  refine dz ?_
  refine at_drop (H:=_) (.s .z) ?_
  refine tn ?_
  refine sr ?_
  refine av rfl (r_load_aggc (c:=c_api_Item) (z:=(zv5,{ { { { { zv4 with f_Kind:=t10 } with f_Key:=t157.1 } with f_Local:=wr .u32 t166.1 } with f_Remote:=wr .u32 t175.1 } with f_Next:=t184.1 })) isAgg33 sizeOf33 rfl (lens_cell .z (Lens.whole _ _))) ?_
  refine at_store (c:=c_api_Item) (z:=(zv5,{ { { { { zv4 with f_Kind:=t10 } with f_Key:=t157.1 } with f_Local:=wr .u32 t166.1 } with f_Remote:=wr .u32 t175.1 } with f_Next:=t184.1 })) (.s .z) (Lens.whole _ _) sizeOf33 rfl rfl rfl ?_
  refine aa rfl rfl ?_
  refine at_nil ?_
  refine dz ?_
  refine wq [3,2] rfl ?_
  refine tn ?_
  refine at_ret ?_
  have hN187 : NK_api_Item (KZ w0 Z_) s_ (zv5,{ { { { { zv4 with f_Kind:=t10 } with f_Key:=t157.1 } with f_Local:=wr .u32 t166.1 } with f_Remote:=wr .u32 t175.1 } with f_Next:=t184.1 }):=⟨RowK.nil ..,RowK.nil ..⟩
  have K:=of_some hF
  subst K
  exact at_res2 rfl (res_cell (c:=c_api_Item) (y:=(zv5,{ { { { { zv4 with f_Kind:=t10 } with f_Key:=t157.1 } with f_Local:=wr .u32 t166.1 } with f_Remote:=wr .u32 t175.1 } with f_Next:=t184.1 })) rfl .z (Lens.whole _ _) isAgg33 sizeOf33 (.inl rfl)) (res_tmp rfl) (fun w1 hw=>⟨Z_,s_,zv5,hM_,rfl,hN187,hw.pop⟩)
 refine cf rfl h145 ?_
 refine sr ?_
 refine av rfl (r_ieql rfl rfl) ?_
 refine aa rfl rfl ?_
 refine at_nil ?_
 refine dz ?_
 refine dz ?_
 refine wq [40,4,2] rfl ?_
 refine tn ?_
 rcases oi hF with ⟨h188,hF⟩|⟨h188,hF⟩
 ·refine ct rfl h188 ?_
  refine sr ?_
  refine av rfl (r_load_agg (l:=(zl6 b13)) isAgg104 sizeOf104 rfl rfl (fun w1 hw=>cells_mid (pre:=[]) (suf:=[]) (hw.ok (Upd.mem .z)) (List.append_nil _).symm rfl)) ?_
  refine at_litG (cs:=(zl6 b13)) underlying96 sizeOf104 zeroValue104 rfl rfl rfl (by kernel_rfl) rfl ?_
  intro b189
  refine av rfl (r_build_struct (zs:=zl19) (cs:=(zl14 b189)) underlying98 zeroValue98 rfl placesR_98 rfl rfl) ?_
  refine sa 2 ((zl14 b189)) (.s (.s (.s .z))) rfl rfl sizeOf98 rfl rfl rfl ?_
  refine aa rfl rfl ?_
  refine at_nil ?_
  refine at_drop (H:=_) (.s .z) ?_
  refine wq [3,2] rfl ?_
  refine tn ?_
  refine at_ret ?_
  refine at_blk_ret (at_then_ret ?_)
  refine at_resI2 rfl (res_cell (c:=cK 2 (by decide)) (y:=ck 2 ((zl14 b189)) rfl) rfl (.s (.s .z)) (Lens.whole _ _) isAgg98 sizeOf98 (.inl rfl)) (res_tmp rfl) ?_
  refine am rfl rfl ?_
  refine av rfl (r_extract rfl rfl) ?_
  refine av rfl (r_extract rfl rfl) ?_
  refine at_alloc (cs:=zl19) zeroValue98 rfl rfl ?_
  intro b190
  refine sa 2 ((zl14 b189)) .z rfl rfl sizeOf98 rfl rfl rfl ?_
  refine aa rfl rfl ?_
  refine at_nil ?_
  refine at_drop (H:=_) (.s (.s (.s .z))) ?_
  refine wq [7,6,5,4,2] rfl ?_
  refine tn ?_
  refine at_seq ?_
  refine at_block ?_
  refine sr ?_
  refine am rfl rfl ?_
  refine av rfl (r_not rfl) ?_
  refine aa rfl rfl ?_
  refine nwq [25,6,5,4,2] rfl ?_
  refine cf rfl rfl ?_
  refine sr ?_
  refine am rfl rfl ?_
  refine av rfl (r_len_sl underlying38 rfl) ?_
  refine av rfl (r_isub rfl rfl) ?_
  refine fa 1 underlying98 rfl rfl sizeOf96 rfl rfl ?_
  refine av rfl (r_load_cell isAgg96 rfl (fun w1 hw=>cells_get (hw.ok (Upd.mem .z)) 1 _ rfl)) ?_
  refine av rfl (r_len_sl underlying96 rfl) ?_
  refine av rfl (r_ineq rfl rfl) ?_
  refine aa rfl rfl ?_
  refine nwq [29,6,5,4,2] rfl ?_
  rcases oi hF with ⟨h191,hF⟩|⟨h191,hF⟩
  ·refine ct rfl h191 ?_
   refine sr ?_
   refine av rfl (r_build_struct (zs:=Cd.cs c_api_Item zv6) (cs:=Cd.cs c_api_Item zv6) underlying33 zeroValue33 rfl (places_api_Item_33) rfl rfl) ?_
   refine at_store (c:=c_api_Item) (z:=zv6) (.s (.s (.s (.s (.s .z))))) (Lens.whole _ _) sizeOf33 rfl rfl rfl ?_
   refine aa rfl rfl ?_
   refine at_nil ?_
   refine dz ?_
   refine dz ?_
   refine dz ?_
   refine dz ?_
   refine dz ?_
   refine wq [3,2] rfl ?_
   refine tn ?_
   refine at_ret ?_
   refine at_blk_ret (at_then_ret ?_)
   have hN192 : NK_api_Item (KZ w0 Z_) s_ zv6:=⟨RowK.nil ..,RowK.nil ..⟩
   have K:=of_some hF
   subst K
   exact at_res2 rfl (res_cell (c:=c_api_Item) (y:=zv6) rfl .z (Lens.whole _ _) isAgg33 sizeOf33 (.inl rfl)) (res_tmp rfl) (fun w1 hw=>⟨Z_,s_,zv5,hM_,rfl,hN192,hw.pop⟩)
  refine cf rfl h191 ?_
  refine at_skip ?_
  refine at_blk_normal (at_then_normal ?_)
  refine at_seq ?_
  refine sr ?_
  refine fa 1 underlying98 rfl rfl sizeOf96 rfl rfl ?_
  refine av rfl (r_load_cell isAgg96 rfl (fun w1 hw=>cells_get (hw.ok (Upd.mem .z)) 1 _ rfl)) ?_
  refine av rfl (r_len_sl underlying96 rfl) ?_
  refine am rfl rfl ?_
  refine at_nil ?_
  refine dz ?_
  refine wq [41,40,39,5,4,2] rfl ?_
  refine tn ?_
  refine at_block ?_
  refine wq [41,40,39,5,4,2] rfl ?_
  refine at_loop ?_
  refine at_round ?_
  refine sr ?_
  refine av rfl (r_ilss rfl rfl) ?_
  refine at_fix (g:=42) rfl (show (decide (0 < 1)) = true from by decide) ?_
  refine nwq [42,41,40,39,5,4,2] rfl ?_
  refine at_seq ?_
  refine ct rfl rfl ?_
  refine sn ?_
  refine at_seq ?_
  refine at_block ?_
  refine sr ?_
  refine am rfl rfl ?_
  refine av rfl (r_idx underlying96 sizeOf104 rfl rfl (by decide) rfl) ?_
  refine av rfl (r_load_agg (l:=(zl6 b13)) isAgg104 sizeOf104 rfl rfl (fun w1 hw=>cells_mid (pre:=[]) (suf:=[]) (hw.ok (Upd.mem .z)) rfl rfl)) ?_
  refine at_alloc (cs:=zl20) zeroValue104 rfl rfl ?_
  intro b193
  refine aa rfl rfl ?_
  refine sa 3 ((zl6 b13)) .z rfl rfl sizeOf104 rfl rfl rfl ?_
  refine nt ?_
  refine at_seq ?_
  refine wq [41,40,39,9,8,5,4,2] rfl ?_
  obtain ⟨h194,hF⟩:=of_guard hF
  refine at_pure (φ:=∃ b o,p4 = some ⟨b,o,none⟩) (fun _ hw=>row_ptr (hw.own (.s (.s (.s (.s .z))))).row h194) ?_
  rintro ⟨b196,o197,hp195⟩
  refine at_invT [.q 46 (fun g198=>.pointer (some ⟨b193,0 + 1,none⟩)) [] 0 0,.q 47 (fun g198=>.func (.func 123) #[] #[.pointer (some ⟨b13,0,none⟩)]) [0] 0 0,.q 48 (fun g198=>.slice p4 t3.length c5) [] 0 0,.q 49 (fun g198=>.int .i64 0) [] 0 0,.q 50 (fun g198=>.int .i64 (wr .i64 (0 + 1))) [3] 0 0,.q 51 (fun g198=>.pointer (some ⟨b196,o197 + Int.toNat (wr .i64 (0 + 1)) * 1,none⟩)) [2,4] 0 0,.q 52 (fun g198=>.string (lget t3 (wr .i64 (0 + 1)))) [5] 0 0] (fun g198 s=>match s with | _=>(Wd w0 (cellsE b193 (zl6 b13) 104::cellsE b189 (zl6 b13) 104::cellsE b13 zl21 133::cellsE b11 (Cd.cs c_api_Item (zv5,{ zv4 with f_Kind:=t10 })) 33::rowE cStr 9 p4 c5 t3::cellsE b1 (Cd.cs c_api_Item zv6) 33::frzE w0 Z_ s_::G_))) 0 7 (by kernel_rfl) (by kernel_rfl) (by kernel_rfl) (by kernel_rfl) (by kernel_rfl) (by kernel_rfl) ⟨fun _ _ _=>rfl,fun _ _ _=>rfl,fun _ _ _=>rfl,fun _ _ _=>rfl,fun _ _ _=>rfl,fun _ _ _=>rfl,fun _ _ _=>rfl,trivial⟩ (by kernel_rfl) (fun w_ h=>⟨fun _=>g3 0 none 0 none w_,h.drew⟩) ⟨?_,?_,?_,?_,?_,?_,?_,trivial⟩ ?_
  ·intro Lx g198 s K hl hh k
   show At 60 ((2,_)::(4,_)::(5,_)::(8,_)::(9,_)::(39,_)::(40,_)::(41,_)::Lx) _ _
   refine fa 1 underlying104 rfl rfl sizeOf101 rfl rfl ?_
   exact at_nil k
  ·intro Lx g198 s K hl hh k
   show At 60 ((46,_)::(2,_)::(4,_)::(5,_)::(8,_)::(9,_)::(39,_)::(40,_)::(41,_)::Lx) _ _
   obtain rfl : s = 0:=by omega
   refine av rfl (r_load_cell isAgg101 rfl (fun w1 hw=>cells_get (hw.ok (Upd.mem .z)) 1 _ rfl)) ?_
   exact at_nil k
  ·intro Lx g198 s K hl hh k
   show At 60 ((2,_)::(4,_)::(5,_)::(8,_)::(9,_)::(39,_)::(40,_)::(41,_)::Lx) _ _
   refine am rfl rfl ?_
   exact at_nil k
  ·intro Lx g198 s K hl hh k
   show At 60 ((2,_)::(4,_)::(5,_)::(8,_)::(9,_)::(39,_)::(40,_)::(41,_)::Lx) _ _
   refine am rfl rfl ?_
   exact at_nil k
  ·intro Lx g198 s K hl hh k
   show At 60 ((49,_)::(2,_)::(4,_)::(5,_)::(8,_)::(9,_)::(39,_)::(40,_)::(41,_)::Lx) _ _
   refine av rfl (r_iadd rfl rfl) ?_
   exact at_nil k
  ·intro Lx g198 s K hl hh k
   show At 60 ((48,_)::(50,_)::(2,_)::(4,_)::(5,_)::(8,_)::(9,_)::(39,_)::(40,_)::(41,_)::Lx) _ _
   refine av rfl (r_idx underlying38 sizeOf9 rfl rfl h194 hp195) ?_
   exact at_nil k
  ·intro Lx g198 s K hl hh k
   show At 60 ((51,_)::(2,_)::(4,_)::(5,_)::(8,_)::(9,_)::(39,_)::(40,_)::(41,_)::Lx) _ _
   obtain rfl : s = 0:=by omega
   refine av rfl (r_load_cell isAgg9 rfl (fun _ hw=>row_cell0 (W:=fun w1=>w1 = _) (fun w1 h=>by subst h; exact Below.refl _ _) (hw.own (.s (.s (.s (.s .z))))).row h194 hp195 rfl _ rfl)) ?_
   exact at_nil k
  intro g198
  show At 60 [(46,_),(47,_),(48,_),(49,_),(50,_),(51,_),(52,_),(2,_),(4,_),(5,_),(8,_),(9,_),(39,_),(40,_),(41,_)] _ _
  refine at_calleeC (caps:=[.pointer (some ⟨b13,0,none⟩)]) rfl ?_
  refine at_callI func123 rfl (by kernel_rfl) rfl rfl rfl rfl ?_
  refine dz ?_
  refine sr ?_
  refine aa rfl rfl ?_
  refine ns ?_
  refine am rfl rfl ?_
  obtain ⟨t199,ht199,hF⟩:=of_bindM hF
  refine at_callB func111 rfl (by kernel_rfl) rfl rfl (fun w hw=>decimal_Read_ok _ _ _ ht199 w (hg_strconv_ErrRange.on hw.below) (hg_strconv_ErrSyntax.on hw.below)) ?_
  refine am rfl rfl ?_
  refine av rfl (r_extract rfl rfl) ?_
  refine av rfl (r_extract rfl rfl) ?_
  refine aa rfl rfl ?_
  refine aa rfl rfl ?_
  refine nwx [7,6,2,0] rfl ?_
  refine av rfl (r_load_cell isAgg133 rfl (fun w1 hw=>cells_get (hw.ok (Upd.mem (.s .z))) 0 _ rfl)) ?_
  refine am rfl rfl ?_
  refine at_callee rfl ?_
  refine at_callI func76 rfl (by kernel_rfl) rfl rfl rfl rfl ?_
  refine sr ?_
  refine aa rfl rfl ?_
  refine ns ?_
  refine am rfl rfl ?_
  refine av rfl (r_nilCheck rfl) ?_
  refine fa 54 underlying33 rfl rfl sizeOf30 rfl rfl ?_
  refine aa rfl rfl ?_
  refine nwq [2] rfl ?_
  refine at_ret ?_
  refine at_retI1 rfl rfl ?_
  refine am rfl rfl ?_
  refine av rfl (r_conv underlying31 underlying30 rfl) ?_
  refine av rfl (r_nilCheck rfl) ?_
  refine at_store (c:=(cInt .u32)) (z:=wr .u32 t199.1) (.s (.s .z)) (c_api_Item_f_Local zv5 ({ zv4 with f_Kind:=t10 })) sizeOf30 rfl rfl rfl ?_
  refine ns ?_
  refine am rfl rfl ?_
  refine aa rfl rfl ?_
  refine nwq [5] rfl ?_
  refine at_ret ?_
  refine at_retI1 rfl rfl ?_
  refine aa rfl rfl ?_
  refine ns ?_
  refine am rfl rfl ?_
  refine av rfl (r_ineq rfl rfl) ?_
  refine nwq [55,41,40,39,10,5,4,2] rfl ?_
  rcases oi hF with ⟨h200,hF⟩|⟨h200,hF⟩
  ·refine ct rfl h200 ?_
   refine sr ?_
   refine av rfl (r_build_struct (zs:=Cd.cs c_api_Item zv6) (cs:=Cd.cs c_api_Item zv6) underlying33 zeroValue33 rfl (places_api_Item_33) rfl rfl) ?_
   refine am rfl rfl ?_
   refine at_store (c:=c_api_Item) (z:=zv6) (.s (.s (.s (.s .z)))) (Lens.whole _ _) sizeOf33 rfl rfl rfl ?_
   refine aa rfl rfl ?_
   refine at_nil ?_
   refine dz ?_
   refine dz ?_
   refine dz ?_
   refine dz ?_
   refine wq [3,2] rfl ?_
   refine tn ?_
   refine at_ret ?_
   refine at_blk_ret (at_then_ret (at_then_ret (at_blk_ret (at_then_ret ?_))))
   have hN201 : NK_api_Item (KZ w0 Z_) s_ zv6:=⟨RowK.nil ..,RowK.nil ..⟩
   have K:=of_some hF
   subst K
   exact at_res2 rfl (res_cell (c:=c_api_Item) (y:=zv6) rfl .z (Lens.whole _ _) isAgg33 sizeOf33 (.inl rfl)) (res_tmp rfl) (fun w1 hw=>⟨Z_,s_,zv5,hM_,rfl,hN201,hw.pop⟩)
  refine cf rfl h200 ?_
  refine at_skip ?_
  refine at_blk_normal (at_then_normal ?_)
  refine at_region ?_
  refine av rfl (r_iadd rfl rfl) ?_
  refine at_ov (t:=58) rfl (show Value.int .i64 (wr .i64 (0 + 1)) = .int .i64 1 from by rfl) ?_
  refine am rfl rfl ?_
  refine nt ?_
  refine wq [41,40,39,5,4,2] rfl ?_
  refine at_round ?_
  refine sr ?_
  refine av rfl (r_ilss rfl rfl) ?_
  refine at_fix (g:=42) rfl (show (decide (1 < 1)) = false from by decide) ?_
  refine nwq [42,41,40,39,5,4,2] rfl ?_
  refine at_seq ?_
  refine cf rfl rfl ?_
  refine at_exit ?_
  refine at_then_exit (at_then_exit ?_)
  refine at_blk_same ?_
  refine dz ?_
  refine dz ?_
  refine at_drop (H:=_) (.s .z) ?_
  refine tn ?_
  refine sr ?_
  refine av rfl (r_load_aggc (c:=c_api_Item) (z:=(zv5,{ { zv4 with f_Kind:=t10 } with f_Local:=wr .u32 t199.1 })) isAgg33 sizeOf33 rfl (lens_cell .z (Lens.whole _ _))) ?_
  refine at_store (c:=c_api_Item) (z:=(zv5,{ { zv4 with f_Kind:=t10 } with f_Local:=wr .u32 t199.1 })) (.s .z) (Lens.whole _ _) sizeOf33 rfl rfl rfl ?_
  refine aa rfl rfl ?_
  refine at_nil ?_
  refine dz ?_
  refine wq [3,2] rfl ?_
  refine tn ?_
  refine at_ret ?_
  have hN202 : NK_api_Item (KZ w0 Z_) s_ (zv5,{ { zv4 with f_Kind:=t10 } with f_Local:=wr .u32 t199.1 }):=⟨RowK.nil ..,RowK.nil ..⟩
  have K:=of_some hF
  subst K
  exact at_res2 rfl (res_cell (c:=c_api_Item) (y:=(zv5,{ { zv4 with f_Kind:=t10 } with f_Local:=wr .u32 t199.1 })) rfl .z (Lens.whole _ _) isAgg33 sizeOf33 (.inl rfl)) (res_tmp rfl) (fun w1 hw=>⟨Z_,s_,zv5,hM_,rfl,hN202,hw.pop⟩)
 refine cf rfl h188 ?_
 refine at_skip ?_
 refine at_blk_normal (at_then_normal ?_)
 refine sr ?_
 refine av rfl (r_build_struct (zs:=zl19) (cs:=zl19) underlying98 zeroValue98 rfl placesR_98 rfl rfl) ?_
 refine sa 2 (zl19) (.s (.s .z)) rfl rfl sizeOf98 rfl rfl rfl ?_
 refine aa rfl rfl ?_
 refine at_nil ?_
 refine dz ?_
 refine dz ?_
 refine wq [3,2] rfl ?_
 refine tn ?_
 refine at_ret ?_
 refine at_resI2 rfl (res_cell (c:=cK 2 (by decide)) (y:=ck 2 (zl19) rfl) rfl .z (Lens.whole _ _) isAgg98 sizeOf98 (.inl rfl)) (res_tmp rfl) ?_
 refine am rfl rfl ?_
 refine av rfl (r_extract rfl rfl) ?_
 refine av rfl (r_extract rfl rfl) ?_
 refine at_alloc (cs:=zl19) zeroValue98 rfl rfl ?_
 intro b203
 refine sa 2 (zl19) .z rfl rfl sizeOf98 rfl rfl rfl ?_
 refine aa rfl rfl ?_
 refine at_nil ?_
 refine at_drop (H:=_) (.s .z) ?_
 refine wq [7,6,5,4,2] rfl ?_
 refine tn ?_
 refine at_seq ?_
 refine at_block ?_
 refine sr ?_
 refine am rfl rfl ?_
 refine av rfl (r_not rfl) ?_
 refine aa rfl rfl ?_
 refine nwq [25,6,5,4,2] rfl ?_
 refine ct rfl rfl ?_
 refine sr ?_
 refine av rfl (r_build_struct (zs:=Cd.cs c_api_Item zv6) (cs:=Cd.cs c_api_Item zv6) underlying33 zeroValue33 rfl (places_api_Item_33) rfl rfl) ?_
 refine at_store (c:=c_api_Item) (z:=zv6) (.s (.s (.s .z))) (Lens.whole _ _) sizeOf33 rfl rfl rfl ?_
 refine aa rfl rfl ?_
 refine at_nil ?_
 refine dz ?_
 refine dz ?_
 refine dz ?_
 refine wq [3,2] rfl ?_
 refine tn ?_
 refine at_ret ?_
 refine at_blk_ret (at_then_ret ?_)
 have hN204 : NK_api_Item (KZ w0 Z_) s_ zv6:=⟨RowK.nil ..,RowK.nil ..⟩
 have K:=of_some hF
 subst K
 exact at_res2 rfl (res_cell (c:=c_api_Item) (y:=zv6) rfl .z (Lens.whole _ _) isAgg33 sizeOf33 (.inl rfl)) (res_tmp rfl) (fun w1 hw=>⟨Z_,s_,zv5,hM_,rfl,hN204,hw.pop⟩)
end Go.Proofs.YtkkmmpofdcccmaaGreatDoor
