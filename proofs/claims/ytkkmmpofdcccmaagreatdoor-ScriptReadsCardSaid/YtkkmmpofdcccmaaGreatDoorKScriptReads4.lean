/- Texts of this claim, those in one that belong together; printed by a program of this project. -/
import Derived.Lib.IndexLaws
import Derived.Lib.IndexMore
import Derived.Test.YtkkmmpofdcccmaaGreatDoorProg
import Derived.Test.YtkkmmpofdcccmaaGreatDoorKScriptReads3
set_option linter.unusedVariables false
set_option linter.unusedSimpArgs false
namespace Go.Proofs.YtkkmmpofdcccmaaGreatDoor.Col
open E Go.RowKit
def gapL:List UInt8→Option (List UInt8×List UInt8)
 | []=>none
 | c::r=>if isCC (c::r)=true then some ([],r.drop 1) else (gapL r).map fun q=>(c::q.1,q.2)
theorem gapL_eq:∀ {l a b:List UInt8},gapL l=some (a,b)→l=a++58::58::b
 | [],_,_,h=>by cases h
 | c::r,a,b,h=>by
  unfold gapL at h
  split at h
  ·next hc =>
   obtain ⟨r2,hr⟩:=(isCC_iff _).1 hc
   cases h
   rw [hr]
   obtain ⟨_,rfl⟩:=List.cons.inj hr
   rfl
  ·obtain ⟨q,hq,h⟩:=Option.map_eq_some_iff.1 h
   obtain ⟨a',b'⟩:=q
   cases h
   rw [gapL_eq hq];rfl
theorem u8_58(x:UInt8):((x.toNat:Int)==58)=(x==58):=by
 by_cases h:x=58
 ·subst h;rfl
 ·have h2:x.toNat≠58:=fun e=>h (UInt8.toNat_inj.1 e)
  have h3:(x==58)=false:=by simp [h]
  rw [h3,beq_eq_false_iff_ne];omega
theorem gap_loop(l:List UInt8)(hl:l.length<1000000):∀ (k i:Nat),l.length-i=k→i≤l.length →
  crawlwayref09_gap.l0 (bs l) (i:Int)=some (match gapL (l.drop i) with | some (a,_)=>.ret ((i+a.length:Nat):Int) | none=>.nx ()):=by
 intro k
 induction k with
 | zero =>
  intro i hk hi
  have w:wr .i64 ((i:Int)+1)=((i+1:Nat):Int):=by rw [wr_i64 (by omega) (by omega)];omega
  rw [crawlwayref09_gap.l0.eq_def,w,bs_size,if_neg (by rw [decide_eq_true_eq];omega),List.drop_eq_nil_of_le (by omega)];rfl
 | succ k ih =>
  intro i hk hi
  have w:wr .i64 ((i:Int)+1)=((i+1:Nat):Int):=by rw [wr_i64 (by omega) (by omega)];omega
  obtain ⟨c,hc,hd⟩:=drop_get l i (by omega)
  have hbc:bt (bs l) (i:Int)=(c.toNat:Int):=bt_at (by rw [bs_list];exact hc)
  have e58:=u8_58
  have hi1:=ih (i+1) (by omega) (by omega)
  rw [crawlwayref09_gap.l0.eq_def,w,bs_size]
  by_cases h1:i+1<l.length
  ·obtain ⟨d,hdd,hd2⟩:=drop_get l (i+1) h1
   have hbd:bt (bs l) ((i+1:Nat):Int)=(d.toNat:Int):=bt_at (by rw [bs_list];exact hdd)
   rw [if_pos (decide_eq_true (by omega)),if_pos (by omega),hbc,e58,hbd,e58,hd,hi1,hd2]
   unfold gapL
   by_cases hc58:c=58
   ·subst hc58
    rw [if_pos (by rfl),if_pos (by omega)]
    by_cases hd58:d=58
    ·subst hd58
     rw [if_pos (by rfl),if_pos (by rfl)];rfl
    ·have hf:(d==58)=false:=by simp [hd58]
     have hf2:isCC (58::d::l.drop (i+1+1))=false:=by simp [isCC,hd58]
     rw [hf,if_neg Bool.false_ne_true,hf2,if_neg Bool.false_ne_true]
     have e:gapL (d::l.drop (i+1+1))=if isCC (d::l.drop (i+1+1))=true then some ([],(l.drop (i+1+1)).drop 1) else (gapL (l.drop (i+1+1))).map fun q=>(d::q.1,q.2):=rfl
     rw [←e]
     cases hg:gapL (d::l.drop (i+1+1)) with
     | none=>rfl
     | some q=>obtain ⟨a,b⟩:=q;simp;omega
   ·have hf:(c==58)=false:=by simp [hc58]
    have hf2:isCC (c::d::l.drop (i+1+1))=false:=by simp [isCC,hc58]
    rw [hf,if_neg Bool.false_ne_true,hf2,if_neg Bool.false_ne_true]
    have e:gapL (d::l.drop (i+1+1))=if isCC (d::l.drop (i+1+1))=true then some ([],(l.drop (i+1+1)).drop 1) else (gapL (l.drop (i+1+1))).map fun q=>(d::q.1,q.2):=rfl
    rw [←e]
    cases hg:gapL (d::l.drop (i+1+1)) with
    | none=>rfl
    | some q=>obtain ⟨a,b⟩:=q;simp;omega
  ·rw [if_neg (by rw [decide_eq_true_eq];omega),hd,List.drop_eq_nil_of_le (show l.length≤i+1 by omega)]
   rfl
theorem gap_ok(l:List UInt8)(hl:l.length<1000000):crawlwayref09_gap (bs l)=some (match gapL l with | some (a,_)=>(a.length:Int) | none=>-1):=by
 unfold crawlwayref09_gap
 have h:=gap_loop l hl l.length 0 (by omega) (by omega)
 rw [show ((0:Nat):Int)=0 from rfl,List.drop_zero] at h
 rw [h,bindM_some]
 cases gapL l with
 | none=>rfl
 | some q=>obtain ⟨a,b⟩:=q;simp
theorem parts_other{c:UInt8}(hc:c≠58)(r:List UInt8):parts 58 (c::r)=(c::(parts 58 r).headD [])::(parts 58 r).tail:=by rw [parts,if_neg hc]
theorem spl_gap:∀ (l:List UInt8),spl (parts 58 l)=(gapL l).map fun q=>(parts 58 q.1,parts 58 q.2)
 | []=>rfl
 | c::r=>by
  have ih:=spl_gap r
  have hne:=parts_ne 58 r
  unfold gapL
  by_cases hc:c=58
  ·subst hc
   rw [parts_colon,spl]
   by_cases hr:∃ r2,r=58::r2
   ·rw [if_pos ((parts_head r).2 hr),if_pos ((isCC_iff _).2 (by obtain ⟨r2,h⟩:=hr;exact ⟨r2,by rw [h]⟩))]
    obtain ⟨r2,rfl⟩:=hr
    rw [parts_colon];rfl
   ·rw [if_neg (fun h=>hr ((parts_head r).1 h)),if_neg (fun h=>hr (by obtain ⟨r2,h⟩:=(isCC_iff _).1 h;exact ⟨r2,(List.cons.inj h).2⟩)),ih]
    cases gapL r with
    | none=>rfl
    | some q=>simp [parts_colon]
  ·rw [parts_other hc]
   have hcc:¬ isCC (c::r)=true:=fun h=>by obtain ⟨r2,h⟩:=(isCC_iff _).1 h;exact hc (List.cons.inj h).1
   rw [if_neg hcc]
   cases hp:parts 58 r with
   | nil=>exact absurd hp hne
   | cons h t =>
    rw [hp] at ih
    show spl ((c::h)::t)=_
    rw [spl] at ih ⊢
    have key:∀ (q:Option (List UInt8×List UInt8)),(∀ z,q=some z→∃ h' t',parts 58 z.1=h'::t') →
      ((q.map fun q=>(c::q.1,q.2)).map fun q=>(parts 58 q.1,parts 58 q.2))=(q.map fun q=>(parts 58 q.1,parts 58 q.2)).map fun x=>((c::x.1.headD [])::x.1.tail,x.2):=by
     intro q _
     cases q with
     | none=>rfl
     | some z=>simp [parts_other hc]
    rw [key _ (fun z _=>by
     have:=parts_ne 58 z.1
     cases hz:parts 58 z.1 with
     | nil=>exact absurd hz this
     | cons a b=>exact ⟨a,b,rfl⟩),←ih]
    by_cases hcond:t.head? = some []∧2≤t.length
    ·rw [if_pos hcond,if_pos hcond];rfl
    ·rw [if_neg hcond,if_neg hcond]
     cases spl t with
     | none=>rfl
     | some z=>rfl
theorem lget_map{α β:Type}[Inhabited β](f:α→β)(ps:List α)(i:Nat)(p:α)(h:ps[i]? = some p):lget (ps.map f) (i:Int)=f p:=by
 unfold lget
 rw [Int.toNat_natCast,List.getD_eq_getElem?_getD,List.getElem?_map,h];rfl
theorem list_loop(last:Bool)(ps:List (List UInt8))(hps:ps.length<1000000)(hsz:∀ p∈ps,p.length<1000000):∀ (k i:Nat) (acc:List Nat),ps.length-i=k→i≤ps.length→acc.length≤2*i →
  crawlwayref09_list.l0 last (ps.map bs) (ns acc) (i:Int)=some (match lst last (ps.drop i) with | some x=>.nx (ns (acc++x)) | none=>.ret ([],false)):=by
 intro k
 induction k with
 | zero =>
  intro i acc hk hi ha
  rw [crawlwayref09_list.l0.eq_def,if_neg (by rw [decide_eq_true_eq];simp;omega),List.drop_eq_nil_of_le (by omega)]
  simp [lst]
 | succ k ih =>
  intro i acc hk hi ha
  have w:wr .i64 ((i:Int)+1)=((i+1:Nat):Int):=by rw [wr_i64 (by omega) (by omega)];omega
  obtain ⟨p,hp,hd⟩:=drop_get ps i (by omega)
  have hpm:=hsz p (List.mem_of_getElem? hp)
  have hlen:((ps.map bs).length:Int)=(ps.length:Int):=by simp
  have w2:wr .i64 ((ps.length:Int)-1)=(ps.length:Int)-1:=wr_i64 (by omega) (by omega)
  rw [crawlwayref09_list.l0.eq_def,hlen,if_pos (decide_eq_true (by omega)),if_pos (by omega),lget_map bs ps i p hp,Hex.refRead_eq,bindM_some,hd,lst]
  cases hr:Hex.read (bs p) with
  | some n =>
   show (if decide ((n:Int)≥0)=true then _ else _)=_
   rw [if_pos (decide_eq_true (by omega)),if_pos (by rw [ns_len];omega),w]
   have h2:=ih (i+1) (acc++[n]) (by omega) (by omega) (by simp;omega)
   rw [ns_app] at h2
   show crawlwayref09_list.l0 last (ps.map bs) (ns acc++[(n:Int)]) _=_
   have e:ns [n]=[(n:Int)]:=rfl
   rw [←e,h2]
   simp only
   cases lst last (ps.drop (i+1)) with
   | none=>rfl
   | some x=>simp [ns_app,e]
  | none =>
   show (if decide ((-1:Int)≥0)=true then _ else _)=_
   rw [if_neg (by decide),if_pos (by omega),quad_parse_ref p hpm,bindM_some]
   simp only
   by_cases h0:(quadP p).2=0
   ·obtain ⟨m,hm,hq,_⟩:=quadP_back h0
    have hb:((viOf (quadP p)).2 != 0)=false:=by rw [hq];rfl
    rw [hb,if_neg Bool.false_ne_true]
    cases last with
    | false =>
     rw [if_pos (by rfl),if_neg (by simp)]
    | true =>
     rw [if_neg (by decide),w2]
     by_cases hl:i+1<ps.length
     ·rw [if_pos (decide_eq_true (by omega)),if_neg]
      rintro ⟨_,_,h⟩
      have:=congrArg List.length h
      simp at this;omega
     ·have hdn:ps.drop (i+1)=[]:=List.drop_eq_nil_of_le (by omega)
      rw [if_neg (by rw [decide_eq_true_eq];omega),if_pos (by rw [ns_len];omega),if_pos ⟨h0,rfl,hdn⟩,w]
      match m,hm with
      | [a,b,c,d],hm =>
       have la:=a.toNat_lt
       have lb:=b.toNat_lt
       have lc:=c.toNat_lt
       have ld:=d.toNat_lt
       rw [hq]
       have e0:vget (v4 [a,b,c,d]) 0=(a.toNat:Int):=vget_v4 hm 0 a rfl
       have e1:vget (v4 [a,b,c,d]) 1=(b.toNat:Int):=vget_v4 hm 1 b rfl
       have e2:vget (v4 [a,b,c,d]) 2=(c.toNat:Int):=vget_v4 hm 2 c rfl
       have e3:vget (v4 [a,b,c,d]) 3=(d.toNat:Int):=vget_v4 hm 3 d rfl
       have eq:q2 (v4 [a,b,c,d])=[256*a.toNat+b.toNat,256*c.toNat+d.toNat]:=by unfold q2;rw [e0,e1,e2,e3];rfl
       have g1:∀ x y:Nat,x<256→y<256→wr .i64 (wr .i64 (256*wr .i64 (x:Int))+wr .i64 (y:Int))=((256*x+y:Nat):Int):=by
        intro x y hx hy
        rw [wr_i64 (x:=(x:Int)) (by omega) (by omega),wr_i64 (x:=(y:Int)) (by omega) (by omega),wr_i64 (x:=256*(x:Int)) (by omega) (by omega),wr_i64 (by omega) (by omega)];omega
       show crawlwayref09_list.l0 true (ps.map bs) (ns acc++[wr .i64 (wr .i64 (256*wr .i64 (vget (v4 [a,b,c,d]) 0))+wr .i64 (vget (v4 [a,b,c,d]) 1)),wr .i64 (wr .i64 (256*wr .i64 (vget (v4 [a,b,c,d]) 2))+wr .i64 (vget (v4 [a,b,c,d]) 3))]) _=some (Ctl.nx (ns (acc++q2 (v4 [a,b,c,d]))))
       rw [e0,e1,e2,e3,g1 _ _ la lb,g1 _ _ lc ld,eq,crawlwayref09_list.l0.eq_def,hlen,if_neg (by rw [decide_eq_true_eq];omega),ns_app];rfl
   ·have hb:((viOf (quadP p)).2 != 0)=true:=by rw [bne_iff_ne];show (((quadP p).2:Nat):Int)≠0;omega
    rw [hb,if_pos rfl,if_neg (fun h=>h0 h.1)]
def liOf(o:Option (List Nat)):List Int×Bool:=match o with
 | some x=>(ns x,true)
 | none=>([],false)
theorem list_ok(l:List UInt8)(last:Bool)(hl:l.length<100000):crawlwayref09_list (bs l) last=some (liOf (lstE last (parts 58 l))):=by
 unfold crawlwayref09_list lstE
 by_cases h0:l=[]
 ·subst h0
  rw [if_pos ((seq_nil []).2 rfl),if_pos (show parts 58 []=[[]] from rfl)];rfl
 ·rw [if_neg (fun e=>h0 ((seq_nil l).1 e)),if_neg (fun e=>h0 ((parts_nil_iff l).1 e))]
  have h58:((58:UInt8).toNat:Int)=58:=rfl
  have hp:=parts_ref 58 l (by omega)
  rw [h58] at hp
  rw [hp,bindM_some]
  have:=list_loop last (parts 58 l) (by have:=parts_len 58 l;omega) (fun p hpm=>by have:=part_short 58 l p hpm;omega) (parts 58 l).length 0 [] (by omega) (by omega) (by simp)
  rw [show ns []=([]:List Int) from rfl,show ((0:Nat):Int)=0 from rfl,List.drop_zero] at this
  rw [this,bindM_some]
  cases lst last (parts 58 l) with
  | none=>rfl
  | some x=>rfl
def Bytes(L:List Int)(R:Int→Vector Int 16→Option (Vector Int 16)):Prop:=∀ i o,R i o=if (decide (i<8))=true then (if (0:Int)≤i∧i<(L.length:Int) then if (0:Int)≤wr .i64 (2*i)∧wr .i64 (2*i)<16 then if (0:Int)≤i∧i<(L.length:Int) then if (0:Int)≤wr .i64 ((wr .i64 (2*i))+1)∧wr .i64 ((wr .i64 (2*i))+1)<16 then R (wr .i64 (i+1)) (vset (vset o (wr .i64 (2*i)) (wr .u8 (wr .i64 (Int.tdiv (lget L i) 256)))) (wr .i64 ((wr .i64 (2*i))+1)) (wr .u8 (Int.tmod (lget L i) 256))) else none else none else none else none) else (some o)
theorem ref_bytes{R:Int→Vector Int 16→Option (Vector Int 16)}{G:List Nat}(hR:Bytes (ns G) R)(h8:G.length=8)(hG:∀ n∈G,n<65536):∀ (k i:Nat),i+k=8→R (i:Int) (v16 (un (G.take i)++List.replicate (16-2*i) 0))=some (v16 (un G)):=by
 intro k
 induction k with
 | zero =>
  intro i hi
  obtain rfl:i=8:=by omega
  rw [hR,if_neg (by decide),List.take_of_length_le (by omega)]
  simp
 | succ k ih =>
  intro i hi
  have hlt:i<8:=by omega
  obtain ⟨n,hn⟩:∃ n,G[i]? = some n:=⟨_,List.getElem?_eq_getElem (by omega)⟩
  have hn6:=hG n (List.mem_of_getElem? hn)
  have w1:wr .i64 (2*(i:Int))=((2*i:Nat):Int):=by rw [wr_i64 (by omega) (by omega)];omega
  have w2:wr .i64 (((2*i:Nat):Int)+1)=((2*i+1:Nat):Int):=by rw [wr_i64 (by omega) (by omega)];omega
  have w3:wr .i64 ((i:Int)+1)=((i+1:Nat):Int):=by rw [wr_i64 (by omega) (by omega)];omega
  have hv:lget (ns G) (i:Int)=(n:Int):=by unfold lget;rw [Int.toNat_natCast];exact ns_get G i n hn
  have hl:((ns G).length:Int)=8:=by rw [ns_len,h8];rfl
  have d1:Int.tdiv (n:Int) 256=((n/256:Nat):Int):=by rw [Int.tdiv_eq_ediv_of_nonneg (by omega)];omega
  have d2:Int.tmod (n:Int) 256=((n%256:Nat):Int):=by rw [Int.tmod_eq_emod_of_nonneg (by omega)];omega
  rw [hR,if_pos (decide_eq_true (by omega)),hl,if_pos (by omega),w1,w2,if_pos (by omega),if_pos (by omega),if_pos (by omega),w3,hv,d1,d2,put2 G h8 i n hlt hn hn6]
  ·exact ih (i+1) (by omega)
  ·rw [wr_i64 (by omega) (by omega),wr_u8 (by omega) (by omega)]
  ·rw [wr_u8 (by omega) (by omega)]
theorem bytes0(L:List Int)(b:Bool):Bytes L fun i o=>crawlwayref09_Parse.l0 (L,b) i o:=fun i o=>by
 show crawlwayref09_Parse.l0 (L,b) i o=_
 rw [crawlwayref09_Parse.l0.eq_def]
theorem bytes3(q y:List Int)(b:Bool):Bytes (q++y) fun i o=>crawlwayref09_Parse.l3 (y,b) q i o:=fun i o=>by
 show crawlwayref09_Parse.l3 (y,b) q i o=_
 rw [crawlwayref09_Parse.l3.eq_def]
theorem lst_len(last:Bool):∀ (ps:List (List UInt8)) (x:List Nat),lst last ps=some x→x.length≤ps.length+1
 | [],x,h=>by cases h;simp
 | p::r,x,h=>by
  rw [lst] at h
  cases hr:Hex.read (bs p) with
  | some m =>
   rw [hr] at h
   obtain ⟨y,hy,rfl⟩:=Option.map_eq_some_iff.1 h
   have:=lst_len last r y hy
   simp;omega
  | none =>
   rw [hr] at h
   simp only at h
   split at h
   ·cases h;simp [q2]
   ·cases h
theorem lstE_len{last:Bool}{ps:List (List UInt8)}{x:List Nat}(h:lstE last ps=some x):x.length≤ps.length+1:=by
 unfold lstE at h
 split at h
 ·cases h;simp
 ·exact lst_len last ps x h
theorem copy_loop(G:List Nat)(hG:G.length<1000000)(b:Bool):∀ (k i:Nat),G.length-i=k→i≤G.length→crawlwayref09_Parse.l1 (ns G,b) (ns (G.take i)) (i:Int)=some (ns G):=by
 intro k
 induction k with
 | zero =>
  intro i hk hi
  rw [crawlwayref09_Parse.l1.eq_def]
  show (if decide ((i:Int)<((ns G).length:Int))=true then _ else _)=_
  rw [ns_len,if_neg (by rw [decide_eq_true_eq];omega),List.take_of_length_le (by omega)]
 | succ k ih =>
  intro i hk hi
  obtain ⟨n,hn⟩:∃ n,G[i]? = some n:=⟨_,List.getElem?_eq_getElem (by omega)⟩
  have w:wr .i64 ((i:Int)+1)=((i+1:Nat):Int):=by rw [wr_i64 (by omega) (by omega)];omega
  have hv:lget (ns G) (i:Int)=(n:Int):=by unfold lget;rw [Int.toNat_natCast];exact ns_get G i n hn
  have h2:=ih (i+1) (by omega) (by omega)
  rw [List.take_add_one,hn,ns_app] at h2
  rw [crawlwayref09_Parse.l1.eq_def]
  show (if decide ((i:Int)<((ns G).length:Int))=true then (if (0:Int)≤(i:Int)∧(i:Int)<((ns G).length:Int) then if (ns (G.take i)).length.succ*8≤_ then crawlwayref09_Parse.l1 (ns G,b) (ns (G.take i)++[lget (ns G) (i:Int)]) (wr .i64 ((i:Int)+1)) else none else none) else _)=_
  rw [ns_len,ns_len,if_pos (decide_eq_true (by omega)),if_pos (by omega),if_pos (by rw [List.length_take];omega),hv,w]
  exact h2
theorem zero_loop(y:List Int)(b:Bool)(hy:y.length≤8):∀ (k:Nat) (G:List Nat),8-(G.length+y.length)=k→G.length≤8→crawlwayref09_Parse.l2 (y,b) (ns G)=some (ns (G++List.replicate (8-(G.length+y.length)) 0)):=by
 intro k
 induction k with
 | zero =>
  intro G hk hG
  rw [crawlwayref09_Parse.l2.eq_def]
  show (if decide (wr .i64 (((ns G).length:Int)+(y.length:Int))<8)=true then _ else _)=_
  rw [ns_len,wr_i64 (by omega) (by omega),if_neg (by rw [decide_eq_true_eq];omega),hk]
  simp
 | succ k ih =>
  intro G hk hG
  have h2:=ih (G++[0]) (by simp;omega) (by simp;omega)
  rw [ns_app] at h2
  rw [crawlwayref09_Parse.l2.eq_def]
  show (if decide (wr .i64 (((ns G).length:Int)+(y.length:Int))<8)=true then (if (ns G).length.succ*8≤_ then crawlwayref09_Parse.l2 (y,b) (ns G++[0]) else none) else _)=_
  rw [ns_len,wr_i64 (by omega) (by omega),if_pos (decide_eq_true (by omega)),if_pos (by omega)]
  show crawlwayref09_Parse.l2 (y,b) (ns G++ns [0])=_
  rw [h2,List.append_assoc,hk]
  simp only [List.length_append,List.length_cons,List.length_nil]
  rw [show 8-(G.length+(0+1)+y.length)=k by omega,List.replicate_succ]
  rfl
theorem ref_parse(l:List UInt8)(hb:l.length<100000):crawlwayref09_Parse (bs l)=some (parseV l,(parseL l).isSome):=by
 unfold crawlwayref09_Parse parseV
 have hgap:=gap_ok l (by omega)
 have hspl:=spl_gap l
 cases hg:gapL l with
 | none =>
  rw [hg] at hspl
  have hspl':spl (parts 58 l)=none:=hspl
  have hgap':crawlwayref09_gap (bs l)=some (-1):=by rw [hgap,hg]
  rw [hgap',bindM_some]
  show (if decide ((-1:Int)<0)=true then _ else _)=_
  rw [if_pos (by decide),list_ok l true hb,bindM_some]
  have e:lstE true (parts 58 l)=some []∧l=[]∨lstE true (parts 58 l)=lst true (parts 58 l)∧l≠[]:=by
   unfold lstE
   by_cases h0:l=[]
   ·subst h0;exact .inl ⟨rfl,rfl⟩
   ·exact .inr ⟨if_neg (fun e=>h0 ((parts_nil_iff l).1 e)),h0⟩
  rcases e with ⟨e,h0⟩ | ⟨e,h0⟩
  ·subst h0
   rw [e]
   have e2:parseL []=none:=rfl
   rw [e2]
   show (if (!true)=true then _ else (if ((0:Int) != 8)=true then _ else _))=_
   rw [if_neg (by decide),if_pos (by decide),v16_zero];rfl
  ·rw [e]
   have e2:parseL l=(lst true (parts 58 l)).bind fun x=>if x.length=8 then some x else none:=by unfold parseL;rw [hspl']
   have hok:∀ {G:List Nat},parseL l=some G→G.length=8∧∀ n∈G,n<65536:=fun h=>parseL_ok h
   rw [e2] at hok ⊢
   cases hl:lst true (parts 58 l) with
   | none =>
    show (if (!false)=true then _ else _)=_
    rw [if_pos (show (!false)=true from rfl),v16_zero];rfl
   | some x =>
    rw [hl] at hok
    show (if (!true)=true then _ else (if (((ns x).length:Int) != 8)=true then _ else _))=_
    rw [if_neg (by decide),ns_len]
    simp only [Option.bind_some] at hok ⊢
    by_cases h8:x.length=8
    ·have hne:((x.length:Int) != 8)=false:=by rw [h8];rfl
     rw [if_pos h8] at hok ⊢
     have hlt:=(hok rfl).2
     rw [hne,if_neg Bool.false_ne_true,v16_zero]
     have:=ref_bytes (bytes0 (ns x) true) h8 hlt 8 0 rfl
     rw [show 16-2*0=16 from rfl,List.take_zero,show un []=[] from rfl,List.nil_append,show ((0:Nat):Int)=0 from rfl] at this
     show (crawlwayref09_Parse.l0 (ns x,true) 0 (v16 (List.replicate 16 0))>>=fun q10=>_)=_
     rw [this];rfl
    ·have hne:((x.length:Int) != 8)=true:=by rw [bne_iff_ne];omega
     rw [hne,if_pos rfl,if_neg h8,v16_zero];rfl
 | some q =>
  obtain ⟨a,b⟩:=q
  rw [hg] at hspl
  have hspl':spl (parts 58 l)=some (parts 58 a,parts 58 b):=hspl
  have hl:=gapL_eq hg
  have hlen:l.length=a.length+(b.length+2):=by rw [hl];simp
  have hgap':crawlwayref09_gap (bs l)=some (a.length:Int):=by rw [hgap,hg]
  rw [hgap',bindM_some]
  have w2:wr .i64 ((a.length:Int)+2)=((a.length+2:Nat):Int):=by rw [wr_i64 (by omega) (by omega)];omega
  have x1:(bs l).extract (Int.toNat 0) (Int.toNat (a.length:Int))=bs a:=by
   rw [Int.toNat_natCast,bs_extract,hl,List.take_left' rfl];rfl
  have x2:(bs l).extract (Int.toNat ((a.length+2:Nat):Int)) (Int.toNat ((bs l).size:Int))=bs b:=by
   rw [Int.toNat_natCast,Int.toNat_natCast,bs_extract,bs_size,List.take_of_length_le (Nat.le_refl _),hl,List.drop_append,List.drop_eq_nil_of_le (by omega),show a.length+2-a.length=2 by omega];rfl
  have hsz:(bs l).size=l.length:=bs_size l
  rw [if_neg (by rw [decide_eq_true_eq];omega),if_pos (by rw [hsz];omega),x1,list_ok a false (by omega),bindM_some,w2,if_pos (by rw [hsz];omega),x2,list_ok b true (by omega),bindM_some]
  have e2:parseL l=(lstE false (parts 58 a)).bind fun x=>(lstE true (parts 58 b)).bind fun y=>if x.length+y.length≤7 then some (x++(List.replicate (8-x.length-y.length) 0++y)) else none:=by unfold parseL;rw [hspl']
  have hok:∀ {G:List Nat},parseL l=some G→G.length=8∧∀ n∈G,n<65536:=fun h=>parseL_ok h
  rw [e2] at hok ⊢
  cases hx:lstE false (parts 58 a) with
  | none =>
   show (if (!false)=true then _ else _)=_
   rw [if_pos (show (!false)=true from rfl),v16_zero];rfl
  | some x =>
   rw [hx] at hok
   cases hy:lstE true (parts 58 b) with
   | none =>
    show (if (!true)=true then _ else (if (!false)=true then _ else _))=_
    rw [if_neg (by decide),if_pos (show (!false)=true from rfl),v16_zero];rfl
   | some y =>
    rw [hy] at hok
    simp only [Option.bind_some] at hok ⊢
    have hxl:x.length<1000000:=by have:=lstE_len hx;have:=parts_len 58 a;omega
    have hyl:y.length<1000000:=by have:=lstE_len hy;have:=parts_len 58 b;omega
    show (if (!true)=true then _ else (if (!true)=true then _ else (if decide (wr .i64 (((ns x).length:Int)+((ns y).length:Int))>7)=true then _ else _)))=_
    rw [if_neg (by decide),if_neg (by decide),ns_len,ns_len,wr_i64 (by omega) (by omega)]
    by_cases h7:x.length+y.length≤7
    ·rw [if_neg (by rw [decide_eq_true_eq];omega)]
     rw [if_pos h7] at hok ⊢
     obtain ⟨h8,hlt⟩:=hok rfl
     have c1:=copy_loop x hxl true x.length 0 (by omega) (by omega)
     rw [List.take_zero,show ns []=([]:List Int) from rfl,show ((0:Nat):Int)=0 from rfl] at c1
     show (crawlwayref09_Parse.l1 (ns x,true) [] 0>>=fun q37=>crawlwayref09_Parse.l2 (ns y,true) q37>>=fun q55=>_)=_
     rw [c1,bindM_some,zero_loop (ns y) true (by rw [ns_len];omega) _ x rfl (by omega),bindM_some]
     rw [show liOf (some y)=(ns y,true) from rfl,ns_len,ns_len,if_pos (by simp;omega),v16_zero]
     have b3:=bytes3 (ns (x++List.replicate (8-(x.length+y.length)) 0)) (ns y) true
     have eG:ns (x++List.replicate (8-(x.length+y.length)) 0)++ns y=ns (x++(List.replicate (8-x.length-y.length) 0++y)):=by
      rw [←ns_app,List.append_assoc,Nat.sub_sub]
     rw [eG] at b3
     have:=ref_bytes b3 h8 hlt 8 0 rfl
     rw [show 16-2*0=16 from rfl,List.take_zero,show un []=[] from rfl,List.nil_append,show ((0:Nat):Int)=0 from rfl] at this
     rw [this];rfl
    ·rw [if_pos (decide_eq_true (by omega)),if_neg h7,v16_zero];rfl
theorem gr_get : ∀ (l : List UInt8) (i : Nat) (a b : UInt8), l[2 * i]? = some a → l[2 * i + 1]? = some b → (gr l)[i]? = some (256 * a.toNat + b.toNat)
  | x :: y :: r, 0, a, b, ha, hb => by simp at ha hb; subst ha hb; rfl
  | x :: y :: r, i + 1, a, b, ha, hb => by
    have e1 : 2 * (i + 1) = 2 * i + 1 + 1 := by omega
    have e2 : 2 * (i + 1) + 1 = 2 * i + 1 + 1 + 1 := by omega
    rw [e1] at ha
    rw [e2] at hb
    simp only [List.getElem?_cons_succ] at ha hb
    exact gr_get r i a b ha hb
  | [x], i, a, b, ha, hb => by
    cases i with
    | zero => simp at hb
    | succ i => have : 2 * (i + 1) = (2 * i + 1) + 1 := by omega
                rw [this] at ha; simp at ha
  | [], i, a, b, ha, hb => by simp at ha
theorem ofBig2(a b:UInt8):endian_OfBig (ob [a,b])=some (((256*a.toNat+b.toNat:Nat):Int),0):=by
 have ha:=a.toNat_lt
 have hb:=b.toNat_lt
 have e1:ior .u64 (ishl .u64 0 8) (wr .u64 (a.toNat:Int))=(a.toNat:Int):=by
  rw [wr_u64 (by omega) (by omega),show (8:Int)=((8:Nat):Int) from rfl,show (0:Int)=((0:Nat):Int) from rfl,ishl_nat .u64 rfl 0 8 (by decide),ior_nat .u64 rfl _ _ (by decide) (by show _<18446744073709551616;omega)]
  simp
 have e2:ior .u64 (ishl .u64 (a.toNat:Int) 8) (wr .u64 (b.toNat:Int))=((256*a.toNat+b.toNat:Nat):Int):=by
  rw [wr_u64 (by omega) (by omega),show (8:Int)=((8:Nat):Int) from rfl,ishl_nat .u64 rfl a.toNat 8 (by decide)]
  have e:(a.toNat*2 ^ 8)%2 ^ IntKind.u64.bits=a.toNat*256:=by show (a.toNat*256)%18446744073709551616=_;omega
  rw [e,ior_nat .u64 rfl _ _ (by show _<18446744073709551616;omega) (by show _<18446744073709551616;omega)]
  have h2:=Nat.two_pow_add_eq_or_of_lt (i:=8) (b:=b.toNat) (by simpa using hb) a.toNat
  have e3:2 ^ 8*a.toNat=a.toNat*256:=by omega
  rw [e3] at h2
  rw [←h2,Nat.mul_comm a.toNat 256]
 have l0:lget (ob [a,b]) 0=(a.toNat:Int):=rfl
 have l1:lget (ob [a,b]) 1=(b.toNat:Int):=rfl
 have hl:((ob [a,b]).length:Int)=2:=rfl
 unfold endian_OfBig endian_sized
 rw [hl,if_pos (by decide),bindM_some]
 show (if (!true)=true then _ else _)=_
 rw [if_neg (by decide),endian_OfBig.l0.eq_def,hl,if_pos (by decide),if_pos (by decide),l0,e1,show wr .i64 (0+1)=1 from rfl,endian_OfBig.l0.eq_def,hl,if_pos (by decide),if_pos (by decide),l1,e2,show wr .i64 (1+1)=2 from rfl,endian_OfBig.l0.eq_def,hl,if_neg (by decide),bindM_some]
theorem groups_loop{m:List UInt8}(hm:m.length=16):∀ (k i:Nat),i+k=8→colon_groups.l0 (v16 m) (i:Int) (gv ((gr m).take i))=some (gv (gr m)):=by
 have hg:(gr m).length=8:=by rw [gr_len,hm]
 intro k
 induction k with
 | zero =>
  intro i hi
  obtain rfl:i=8:=by omega
  rw [colon_groups.l0.eq_def,if_neg (by decide),List.take_of_length_le (by omega)]
 | succ k ih =>
  intro i hi
  have w1:wr .i64 (2*(i:Int))=((2*i:Nat):Int):=by rw [wr_i64 (by omega) (by omega)];omega
  have w2:wr .i64 (((2*i:Nat):Int)+2)=((2*i+2:Nat):Int):=by rw [wr_i64 (by omega) (by omega)];omega
  have w3:wr .i64 ((i:Int)+1)=((i+1:Nat):Int):=by rw [wr_i64 (by omega) (by omega)];omega
  obtain ⟨a,ha⟩:∃ a,m[2*i]? = some a:=⟨_,List.getElem?_eq_getElem (by omega)⟩
  obtain ⟨b,hb⟩:∃ b,m[2*i+1]? = some b:=⟨_,List.getElem?_eq_getElem (by omega)⟩
  have hn:=gr_get m i a b ha hb
  have la:=a.toNat_lt
  have lb:=b.toNat_lt
  have hs:lsub (Vector.toList (v16 m)) ((2*i:Nat):Int) ((2*i+2:Nat):Int)=ob [a,b]:=by
   unfold lsub
   rw [v16_toList hm,Int.toNat_natCast,Int.toNat_natCast]
   unfold ob
   rw [←List.map_take,←List.map_drop]
   congr 1
   rw [List.take_add_one,List.take_add_one,ha,hb]
   have hl:(m.take (2*i)).length=2*i:=by rw [List.length_take];omega
   simp only [Option.toList]
   rw [List.append_assoc,List.drop_left' hl];rfl
  have hi8:((gr m).take i).length=i:=by rw [List.length_take];omega
  rw [colon_groups.l0.eq_def,if_pos (decide_eq_true (by omega)),w1,w2,if_pos (by omega),hs,ofBig2,bindM_some,if_pos (by omega),w3]
  show colon_groups.l0 (v16 m) _ (vset (gv ((gr m).take i)) (i:Int) (wr .u16 ((256*a.toNat+b.toNat:Nat):Int)))=_
  rw [wr_u16 (by omega) (by omega)]
  have h2:=gv_set (G:=(gr m).take i) (by omega) (256*a.toNat+b.toNat)
  rw [hi8] at h2
  have h3:=ih (i+1) (by omega)
  rw [List.take_add_one,hn] at h3
  rw [h2];exact h3
theorem groups_ok{m:List UInt8}(hm:m.length=16):colon_groups (v16 m)=some (gv (gr m)):=by
 unfold colon_groups
 have:=groups_loop hm 8 0 rfl
 rw [List.take_zero,←gv_zero,show ((0:Nat):Int)=0 from rfl] at this
 rw [this,bindM_some]
theorem zp_get{G:List Nat}{i n:Nat}(h:G[i]? = some n):(zp G)[i]? = some (n==0):=by unfold zp;rw [List.getElem?_map,h];rfl
def ii(q:Nat×Nat):Int×Int:=((q.1:Int),(q.2:Int))
theorem int_zero(n:Nat):((n:Int) != 0)=!(n==0):=by
 by_cases h:n=0
 ·subst h;rfl
 ·have h2:(n==0)=false:=by simp [h]
  rw [h2]
  have:((n:Int) != 0)=true:=by rw [bne_iff_ne];omega
  rw [this];rfl
theorem longest_loop{G:List Nat}(h8:G.length=8):∀ (k i p z now:Nat),i+k=8→p≤8→z≤8→now≤i→colon_longest.l0 (gv G) (p:Int) (z:Int) (now:Int) (i:Int)=some (ii (lgC ((zp G).drop i) i p z now)):=by
 intro k
 induction k with
 | zero =>
  intro i p z now hi hp hz hn
  obtain rfl:i=8:=by omega
  rw [colon_longest.l0.eq_def,if_neg (by decide),List.drop_eq_nil_of_le (by rw [zp_len];omega)];rfl
 | succ k ih =>
  intro i p z now hi hp hz hn
  obtain ⟨n,hn'⟩:∃ n,G[i]? = some n:=⟨_,List.getElem?_eq_getElem (by omega)⟩
  obtain ⟨c,hc,hd⟩:=drop_get (zp G) i (by rw [zp_len];omega)
  rw [zp_get hn'] at hc
  cases hc
  have w1:wr .i64 ((i:Int)+1)=((i+1:Nat):Int):=by rw [wr_i64 (by omega) (by omega)];omega
  have w2:wr .i64 ((now:Int)+1)=((now+1:Nat):Int):=by rw [wr_i64 (by omega) (by omega)];omega
  have w3:wr .i64 (((i+1:Nat):Int)-((now+1:Nat):Int))=((i+1-(now+1):Nat):Int):=by rw [wr_i64 (by omega) (by omega)];omega
  rw [colon_longest.l0.eq_def,if_pos (decide_eq_true (by omega)),if_pos (by omega),gv_get h8 i n hn',int_zero,w1,w2,w3,hd,lgC]
  cases hb:(n==0) with
  | false =>
   rw [if_pos (show (!false)=true from rfl),if_pos (show false=false from rfl)]
   exact ih (i+1) p z 0 (by omega) hp hz (by omega)
  | true =>
   rw [if_neg (show ¬ (!true)=true by decide),if_neg (show ¬ true=false by decide)]
   by_cases hg:now+1>z
   ·rw [if_pos (decide_eq_true (by omega)),if_pos hg]
    exact ih (i+1) _ _ _ (by omega) (by omega) (by omega) (by omega)
   ·rw [if_neg (by rw [decide_eq_true_eq];omega),if_neg hg]
    exact ih (i+1) _ _ _ (by omega) hp hz (by omega)
theorem longest_ok{G:List Nat}(h8:G.length=8):colon_longest (gv G)=some (ii (lg (zp G))):=by
 unfold colon_longest
 have:=longest_loop h8 8 0 0 0 0 rfl (by omega) (by omega) (by omega)
 rw [List.drop_zero,lg_code (by rw [zp_len,h8])] at this
 rw [show (0:Int)=((0:Nat):Int) from rfl,this,bindM_some]
theorem row_loop(A:List Nat)(hA:∀ n∈A,n<65536)(hl:A.length≤8):∀ (k i:Nat),A.length-i=k→i≤A.length→colon_row.l0 (ns A) ((A.take i).map Hex.grp) (i:Int)=some (A.map Hex.grp):=by
 intro k
 induction k with
 | zero =>
  intro i hk hi
  rw [colon_row.l0.eq_def,ns_len,if_neg (by rw [decide_eq_true_eq];omega),List.take_of_length_le (by omega)]
 | succ k ih =>
  intro i hk hi
  obtain ⟨n,hn⟩:∃ n,A[i]? = some n:=⟨_,List.getElem?_eq_getElem (by omega)⟩
  have w:wr .i64 ((i:Int)+1)=((i+1:Nat):Int):=by rw [wr_i64 (by omega) (by omega)];omega
  have hv:lget (ns A) (i:Int)=(n:Int):=by unfold lget;rw [Int.toNat_natCast];exact ns_get A i n hn
  have h2:=ih (i+1) (by omega) (by omega)
  rw [List.take_add_one,hn,List.map_append] at h2
  rw [colon_row.l0.eq_def,ns_len,if_pos (decide_eq_true (by omega)),if_pos (by omega),hv,Hex.group_eq n (hA n (List.mem_of_getElem? hn)),bindM_some,if_pos (by rw [List.length_map,List.length_take];omega),w]
  exact h2
theorem row_join:∀ (A:List Nat),[58].intercalate (A.map g1)=rowL A
 | []=>rfl
 | [n]=>by simp [List.intercalate,rowL]
 | n::m::r=>by
  have:=row_join (m::r)
  simp only [List.intercalate,List.map_cons,List.intersperse,List.flatten_cons,rowL] at this ⊢
  rw [this];rfl
theorem bjoin_row(A:List Nat):bjoin (A.map Hex.grp) (⟨#[58]⟩:ByteArray)=bs (rowL A):=by
 apply mk_inj
 rw [bs_list,←row_join]
 unfold bjoin Lib.join
 simp only [List.map_map]
 rfl
theorem row_ok(A:List Nat)(hA:∀ n∈A,n<65536)(hl:A.length≤8):colon_row (ns A)=some (bs (rowL A)):=by
 unfold colon_row
 have h:=row_loop A hA hl A.length 0 (by omega) (by omega)
 rw [List.take_zero,List.map_nil,show ((0:Nat):Int)=0 from rfl] at h
 have hs:=rowL_len A hA
 rw [h,bindM_some,if_pos (by rw [List.length_map];omega),bjoin_row,if_pos (by rw [bs_size];omega)]
theorem bs_app(l k:List UInt8):bs l++bs k=bs (l++k):=by apply mk_inj;rw [append_list,bs_list,bs_list,bs_list]
theorem text_ok{m:List UInt8}(hm:m.length=16):colon_Text (v16 m)=some (bs (textL (gr m))):=by
 have hg:(gr m).length=8:=by rw [gr_len,hm]
 have hlt:=gr_lt m
 have hf:=lg_fits (z:=zp (gr m)) (by rw [zp_len,hg])
 have hgl:(gv (gr m)).toList=ns (gr m):=by rw [gv_toList (by omega),hg];simp
 unfold colon_Text
 rw [groups_ok hm,bindM_some,longest_ok hg,bindM_some,hgl]
 unfold textL
 generalize lg (zp (gr m))=q at hf
 obtain ⟨p,z⟩:=q
 simp only at hf
 show (if decide ((z:Int)<2)=true then _ else (if (0:Int)≤0∧(0:Int)≤(p:Int)∧(p:Int)≤8 then colon_row (lsub (ns (gr m)) 0 (p:Int))>>=fun t8=>if t8.size+(⟨#[58,58]⟩:ByteArray).size≤140737488355328 then if (0:Int)≤wr .i64 ((p:Int)+(z:Int))∧wr .i64 ((p:Int)+(z:Int))≤8∧(8:Int)≤8 then colon_row (lsub (ns (gr m)) (wr .i64 ((p:Int)+(z:Int))) 8)>>=fun t11=>if (t8++(⟨#[58,58]⟩:ByteArray)).size+t11.size≤140737488355328 then some ((t8++(⟨#[58,58]⟩:ByteArray))++t11) else none else none else none else none))=some (bs (if z<2 then rowL (gr m) else rowL ((gr m).take p)++58::58::rowL ((gr m).drop (p+z))))
 by_cases h2:z<2
 ·rw [if_pos (decide_eq_true (by omega)),if_pos h2,row_ok _ hlt (by omega)];rfl
 ·have w:wr .i64 ((p:Int)+(z:Int))=((p+z:Nat):Int):=by rw [wr_i64 (by omega) (by omega)];omega
  have s1:lsub (ns (gr m)) 0 (p:Int)=ns ((gr m).take p):=by unfold lsub;rw [Int.toNat_natCast,ns_take];rfl
  have s2:lsub (ns (gr m)) ((p+z:Nat):Int) 8=ns ((gr m).drop (p+z)):=by
   unfold lsub;rw [Int.toNat_natCast,show Int.toNat 8=8 from rfl,List.take_of_length_le (by rw [ns_len];omega),ns_drop]
  have hA:∀ n∈(gr m).take p,n<65536:=fun n hn=>hlt n (List.mem_of_mem_take hn)
  have hB:∀ n∈(gr m).drop (p+z),n<65536:=fun n hn=>hlt n (List.mem_of_mem_drop hn)
  have lA:=rowL_len _ hA
  have lB:=rowL_len _ hB
  rw [List.length_take] at lA
  rw [List.length_drop] at lB
  have h58:(⟨#[58,58]⟩:ByteArray)=bs [58,58]:=rfl
  rw [if_neg (by rw [decide_eq_true_eq];omega),if_pos (by omega),s1,row_ok _ hA (by rw [List.length_take];omega),bindM_some,h58,if_pos (by rw [bs_size,bs_size];simp only [List.length_cons,List.length_nil];omega),w,if_pos (by omega),s2,row_ok _ hB (by rw [List.length_drop];omega),bindM_some,bs_app,if_pos (by rw [bs_size,bs_size];simp only [List.length_append,List.length_cons,List.length_nil];omega),bs_app,if_neg h2]
  rw [List.append_assoc];rfl
theorem refGroups_loop{m:List UInt8}(hm:m.length=16):∀ (k i:Nat),i+k=8→crawlwayref09_groups.l0 (v16 m) (i:Int) (gv ((gr m).take i))=some (gv (gr m)):=by
 have hg:(gr m).length=8:=by rw [gr_len,hm]
 intro k
 induction k with
 | zero =>
  intro i hi
  obtain rfl:i=8:=by omega
  rw [crawlwayref09_groups.l0.eq_def,if_neg (by decide),List.take_of_length_le (by omega)]
 | succ k ih =>
  intro i hi
  have w1:wr .i64 (2*(i:Int))=((2*i:Nat):Int):=by rw [wr_i64 (by omega) (by omega)];omega
  have w2:wr .i64 (((2*i:Nat):Int)+1)=((2*i+1:Nat):Int):=by rw [wr_i64 (by omega) (by omega)];omega
  have w3:wr .i64 ((i:Int)+1)=((i+1:Nat):Int):=by rw [wr_i64 (by omega) (by omega)];omega
  obtain ⟨a,ha⟩:∃ a,m[2*i]? = some a:=⟨_,List.getElem?_eq_getElem (by omega)⟩
  obtain ⟨b,hb⟩:∃ b,m[2*i+1]? = some b:=⟨_,List.getElem?_eq_getElem (by omega)⟩
  have hn:=gr_get m i a b ha hb
  have la:=a.toNat_lt
  have lb:=b.toNat_lt
  have va:=v16_get hm (2*i) a ha
  have vb:=v16_get hm (2*i+1) b hb
  have hi8:((gr m).take i).length=i:=by rw [List.length_take];omega
  have e:wr .i64 (wr .i64 (256*wr .i64 (a.toNat:Int))+wr .i64 (b.toNat:Int))=((256*a.toNat+b.toNat:Nat):Int):=by
   rw [wr_i64 (x:=(a.toNat:Int)) (by omega) (by omega),wr_i64 (x:=(b.toNat:Int)) (by omega) (by omega),wr_i64 (x:=256*(a.toNat:Int)) (by omega) (by omega),wr_i64 (by omega) (by omega)];omega
  have h2:=gv_set (G:=(gr m).take i) (by omega) (256*a.toNat+b.toNat)
  rw [hi8] at h2
  have h3:=ih (i+1) (by omega)
  rw [List.take_add_one,hn] at h3
  rw [crawlwayref09_groups.l0.eq_def,if_pos (decide_eq_true (by omega)),w1,w2,if_pos (by omega),if_pos (by omega),if_pos (by omega),w3,va,vb,e,h2]
  exact h3
theorem refGroups_ok{m:List UInt8}(hm:m.length=16):crawlwayref09_groups (v16 m)=some (gv (gr m)):=by
 unfold crawlwayref09_groups
 have:=refGroups_loop hm 8 0 rfl
 rw [List.take_zero,←gv_zero,show ((0:Nat):Int)=0 from rfl] at this
 rw [this,bindM_some]
theorem run_loop{G:List Nat}(h8:G.length=8)(f:Nat)(hf:f≤8):∀ (k i:Nat),f+i+k=8→crawlwayref09_run.l0 (gv G) (f:Int) (i:Int)=some ((i+runz ((zp G).drop (f+i)):Nat):Int):=by
 intro k
 induction k with
 | zero =>
  intro i hi
  have w:wr .i64 ((f:Int)+(i:Int))=((f+i:Nat):Int):=by rw [wr_i64 (by omega) (by omega)];omega
  rw [crawlwayref09_run.l0.eq_def,w,if_neg (by rw [decide_eq_true_eq];omega),List.drop_eq_nil_of_le (by rw [zp_len];omega)];rfl
 | succ k ih =>
  intro i hi
  have w:wr .i64 ((f:Int)+(i:Int))=((f+i:Nat):Int):=by rw [wr_i64 (by omega) (by omega)];omega
  have w1:wr .i64 ((i:Int)+1)=((i+1:Nat):Int):=by rw [wr_i64 (by omega) (by omega)];omega
  obtain ⟨n,hn'⟩:∃ n,G[f+i]? = some n:=⟨_,List.getElem?_eq_getElem (by omega)⟩
  obtain ⟨c,hc,hd⟩:=drop_get (zp G) (f+i) (by rw [zp_len];omega)
  rw [zp_get hn'] at hc
  cases hc
  have ez:((n:Int)==0)=(n==0):=by
   by_cases h:n=0
   ·subst h;rfl
   ·have h2:(n==0)=false:=by simp [h]
    rw [h2,beq_eq_false_iff_ne];omega
  rw [crawlwayref09_run.l0.eq_def,w,if_pos (decide_eq_true (by omega)),if_pos (by omega),gv_get h8 (f+i) n hn',ez,w1,hd]
  cases hb:(n==0) with
  | false=>rw [if_neg Bool.false_ne_true];rfl
  | true =>
   rw [if_pos rfl,ih (i+1) (by omega)]
   simp only [runz]
   rw [show f+(i+1)=f+i+1 by omega]
   congr 2;omega
theorem run_ok{G:List Nat}(h8:G.length=8)(f:Nat)(hf:f≤8):crawlwayref09_run (gv G) (f:Int)=some ((runz ((zp G).drop f):Nat):Int):=by
 unfold crawlwayref09_run
 have:=run_loop h8 f hf (8-f) 0 (by omega)
 rw [show ((0:Nat):Int)=0 from rfl,Nat.zero_add,Nat.add_zero] at this
 rw [this,bindM_some]
theorem refText_loop{G:List Nat}(h8:G.length=8):∀ (k i p z:Nat),i+k=8→crawlwayref09_Text.l0 (gv G) (p:Int) (z:Int) (i:Int)=some (ii (lgR ((zp G).drop i) i p z)):=by
 intro k
 induction k with
 | zero =>
  intro i p z hi
  obtain rfl:i=8:=by omega
  rw [crawlwayref09_Text.l0.eq_def,if_neg (by decide),List.drop_eq_nil_of_le (by rw [zp_len];omega)];rfl
 | succ k ih =>
  intro i p z hi
  have w1:wr .i64 ((i:Int)+1)=((i+1:Nat):Int):=by rw [wr_i64 (by omega) (by omega)];omega
  obtain ⟨c,hc,hd⟩:=drop_get (zp G) i (by rw [zp_len];omega)
  rw [crawlwayref09_Text.l0.eq_def,if_pos (decide_eq_true (by omega)),run_ok h8 i (by omega),bindM_some,bindM_some,w1,hd,lgR]
  by_cases hg:runz (c::(zp G).drop (i+1))>z
  ·rw [if_pos (decide_eq_true (by omega)),if_pos hg]
   exact ih (i+1) _ _ (by omega)
  ·rw [if_neg (by rw [decide_eq_true_eq];omega),if_neg hg]
   exact ih (i+1) _ _ (by omega)
theorem rowL_snoc:∀ (A:List Nat) (n:Nat),rowL (A++[n])=if A=[] then g1 n else rowL A++58::g1 n
 | [],n=>rfl
 | [a],n=>by rw [if_neg (by simp)];rfl
 | a::b::r,n=>by
  have:=rowL_snoc (b::r) n
  rw [if_neg (by simp)] at this ⊢
  show g1 a++58::rowL ((b::r)++[n])=_
  rw [this,rowL]
  simp
theorem bs_grp(n:Nat):Hex.grp n=bs (g1 n):=eq_bs _
theorem refRow_loop{G:List Nat}(h8:G.length=8)(hlt:∀ n∈G,n<65536)(f t:Nat)(ht:t≤8):∀ (k i:Nat),i+k=t→f≤i→crawlwayref09_row.l0 (gv G) (f:Int) (t:Int) (bs (rowL ((G.take i).drop f))) (i:Int)=some (bs (rowL ((G.take t).drop f))):=by
 intro k
 induction k with
 | zero =>
  intro i hi hf
  obtain rfl:i=t:=by omega
  rw [crawlwayref09_row.l0.eq_def,if_neg (by rw [decide_eq_true_eq];omega)]
 | succ k ih =>
  intro i hi hf
  obtain ⟨n,hn⟩:∃ n,G[i]? = some n:=⟨_,List.getElem?_eq_getElem (by omega)⟩
  have hn6:=hlt n (List.mem_of_getElem? hn)
  have hgl:=g1_len n hn6
  have w1:wr .i64 ((i:Int)+1)=((i+1:Nat):Int):=by rw [wr_i64 (by omega) (by omega)];omega
  have h3:=ih (i+1) (by omega) (by omega)
  rw [List.take_add_one,hn,List.drop_append_of_le_length (by rw [List.length_take];omega)] at h3
  have h3':=h3
  rw [show (some n).toList=[n] from rfl,rowL_snoc] at h3
  have hsz:=rowL_len ((G.take i).drop f) fun x hx=>hlt x (List.mem_of_mem_take (List.mem_of_mem_drop hx))
  have hll:((G.take i).drop f).length=i-f:=by rw [List.length_drop,List.length_take];omega
  rw [hll] at hsz
  have h58:(⟨#[58]⟩:ByteArray)=bs [58]:=rfl
  rw [crawlwayref09_row.l0.eq_def,if_pos (decide_eq_true (by omega)),gv_get h8 i n hn,Hex.refGroup_eq n hn6,bs_grp,w1,h58]
  by_cases hfi:f<i
  ·have hne:¬ (G.take i).drop f=[]:=fun e=>by have:=congrArg List.length e;rw [hll] at this;simp at this;omega
   rw [if_neg hne] at h3
   rw [if_pos (decide_eq_true (by omega)),if_pos (by rw [bs_size,bs_size];simp only [List.length_cons,List.length_nil];omega),if_pos (by omega),bindM_some,bs_app,if_pos (by rw [bs_size,bs_size,List.length_append];simp only [List.length_cons,List.length_nil];omega),bs_app,List.append_assoc]
   exact h3
  ·have he:(G.take i).drop f=[]:=List.eq_nil_of_length_eq_zero (by rw [hll];omega)
   rw [if_pos he] at h3
   rw [if_neg (by rw [decide_eq_true_eq];omega),if_pos (by omega),bindM_some,if_pos (by rw [bs_size,bs_size];omega),bs_app,he]
   exact h3
theorem refRow_ok{G:List Nat}(h8:G.length=8)(hlt:∀ n∈G,n<65536)(f t:Nat)(hf:f≤t)(ht:t≤8):crawlwayref09_row (gv G) (f:Int) (t:Int)=some (bs (rowL ((G.take t).drop f))):=by
 unfold crawlwayref09_row
 have h:=refRow_loop h8 hlt f t ht (t-f) f (by omega) (Nat.le_refl _)
 have he:(G.take f).drop f=[]:=List.drop_eq_nil_of_le (by rw [List.length_take];omega)
 rw [he] at h
 show (crawlwayref09_row.l0 (gv G) (f:Int) (t:Int) (bs (rowL [])) (f:Int)>>=fun q2=>_)=_
 rw [h,bindM_some]
theorem refText_ok{m:List UInt8}(hm:m.length=16):crawlwayref09_Text (v16 m)=some (bs (textL (gr m))):=by
 have hg:(gr m).length=8:=by rw [gr_len,hm]
 have hlt:=gr_lt m
 have hf:=lg_fits (z:=zp (gr m)) (by rw [zp_len,hg])
 have hl:=refText_loop hg 8 0 0 0 rfl
 rw [List.drop_zero,show ((0:Nat):Int)=0 from rfl] at hl
 unfold crawlwayref09_Text
 rw [refGroups_ok hm,bindM_some,hl,bindM_some]
 unfold textL
 show (if decide (((lg (zp (gr m))).2:Int)<2)=true then _ else crawlwayref09_row (gv (gr m)) 0 ((lg (zp (gr m))).1:Int)>>=fun t14=>if t14.size+(⟨#[58,58]⟩:ByteArray).size≤140737488355328 then crawlwayref09_row (gv (gr m)) (wr .i64 (((lg (zp (gr m))).1:Int)+((lg (zp (gr m))).2:Int))) 8>>=fun t16=>if (t14++(⟨#[58,58]⟩:ByteArray)).size+t16.size≤140737488355328 then some ((t14++(⟨#[58,58]⟩:ByteArray))++t16) else none else none)=_
 generalize lg (zp (gr m))=q at hf
 obtain ⟨p,z⟩:=q
 simp only at hf ⊢
 by_cases h2:z<2
 ·have hr:=refRow_ok hg hlt 0 8 (by omega) (by omega)
  rw [show ((0:Nat):Int)=0 from rfl,show ((8:Nat):Int)=8 from rfl,List.take_of_length_le (by omega),List.drop_zero] at hr
  rw [if_pos (decide_eq_true (by omega)),if_pos h2,hr];rfl
 ·have w:wr .i64 ((p:Int)+(z:Int))=((p+z:Nat):Int):=by rw [wr_i64 (by omega) (by omega)];omega
  have hA:=rowL_len ((gr m).take p) fun n hn=>hlt n (List.mem_of_mem_take hn)
  have hB:=rowL_len ((gr m).drop (p+z)) fun n hn=>hlt n (List.mem_of_mem_drop hn)
  rw [List.length_take] at hA
  rw [List.length_drop] at hB
  have r1:=refRow_ok hg hlt 0 p (by omega) (by omega)
  rw [show ((0:Nat):Int)=0 from rfl,List.drop_zero] at r1
  have r2:=refRow_ok hg hlt (p+z) 8 (by omega) (by omega)
  rw [show ((8:Nat):Int)=8 from rfl,List.take_of_length_le (by omega)] at r2
  have h58:(⟨#[58,58]⟩:ByteArray)=bs [58,58]:=rfl
  rw [if_neg (by rw [decide_eq_true_eq];omega),r1,bindM_some,h58,if_pos (by rw [bs_size,bs_size];simp only [List.length_cons,List.length_nil];omega),w,r2,bindM_some,bs_app,if_pos (by rw [bs_size,bs_size];simp only [List.length_append,List.length_cons,List.length_nil];omega),bs_app,if_neg h2]
  rw [List.append_assoc];rfl
end Go.Proofs.YtkkmmpofdcccmaaGreatDoor.Col
namespace Go.Proofs.YtkkmmpofdcccmaaGreatDoor.AdrT
open E Go.RowKit
open Adr
def z16:List UInt8:=List.replicate 16 0
def hasC(l:List UInt8):Bool:=l.any (·==58)
theorem hasC_iff(l:List UInt8):hasC l=true↔∃ p r,l=p++58::r∧∀ x∈p,x≠58:=by
 constructor
 ·intro h
  rcases split_at 58 l with h2 | h2
  ·unfold hasC at h
   obtain ⟨x,hx,h3⟩:=List.any_eq_true.1 h
   exact absurd (beq_iff_eq.1 h3) (h2 x hx)
  ·exact h2
 ·rintro ⟨p,r,rfl,_⟩
  unfold hasC;simp
theorem hasC_no{l:List UInt8}(h:hasC l=false):∀ x∈l,x≠58:=fun x hx e=>by
 have:=List.any_eq_false.1 h x hx
 subst e;simp at this
theorem unb_ob(l:List UInt8):unb (ob l)=l:=by
 unfold unb ob
 rw [List.map_map]
 conv=>rhs;rw [←List.map_id l]
 apply List.map_congr_left
 intro b _
 show UInt8.ofNat (Int.toNat ((b.toNat:Int)))=b
 rw [Int.toNat_natCast,UInt8.ofNat_toNat]
def quadA(l:List UInt8):S_api_Addr×Int:=if (quadP l).2=0 then (mkA 4 (fourL (unb (quadP l).1.toList)),0) else (mkA 0 z16,((quadP l).2:Int))
def adrP(l:List UInt8):S_api_Addr×Int:=if hasC l=true then (match Col.parseL l with | some G=>(mkA 6 (Col.un G),0) | none=>(mkA 0 z16,5)) else quadA l
theorem six_eq(m:List UInt8):addr_Six (Col.v16 m)=some (mkA 6 m):=rfl
theorem four_v4{m:List UInt8}(hm:m.length=4):addr_Four (v4 m)=some (mkA 4 (fourL m)):=four_eq _ _ (v4_toList hm)
theorem quadP_m{l:List UInt8}(h:(quadP l).2=0):∃ m,m.length=4∧(quadP l).1=v4 m∧unb (quadP l).1.toList=m∧qText m=l:=by
 obtain ⟨m,hm,hq,ht⟩:=quadP_back h
 refine ⟨m,hm,by rw [hq],?_,ht⟩
 rw [hq]
 show unb (v4 m).toList=m
 rw [v4_toList hm,unb_ob]
theorem addr_parse(l:List UInt8)(hl:l.length<1000000):addr_Parse (bs l)=some (adrP l):=by
 unfold addr_Parse adrP
 have h58:((58:UInt8).toNat:Int)=58:=rfl
 cases hc:hasC l with
 | true =>
  obtain ⟨p,r,he,hp⟩:=(hasC_iff l).1 hc
  have hcut:lines_Cut (bs l) 58=some (bs p,bs r,true):=by
   rw [he,←h58];exact cut_some p r 58 hp (by rw [he] at hl;simp at hl;omega)
  rw [hcut,bindM_some,if_pos rfl,if_pos rfl,Col.colon_parse l hl,bindM_some]
  unfold Col.parseV
  cases hq:Col.parseL l with
  | none =>
   show (if ((5:Int) != 0)=true then _ else _)=_
   rw [if_pos (by decide),zero_mkA];rfl
  | some G =>
   show (if ((0:Int) != 0)=true then _ else (addr_Six (Col.v16 (Col.un G))>>=fun t7=>some (t7,0)))=_
   rw [if_neg (by decide),six_eq,bindM_some]
 | false =>
  have hcut:=cut_none l 58 (hasC_no hc)
  rw [h58] at hcut
  rw [hcut,bindM_some,if_neg Bool.false_ne_true,if_neg Bool.false_ne_true,quad_parse l hl,bindM_some]
  unfold quadA
  by_cases h0:(quadP l).2=0
  ·obtain ⟨m,hm,hv,hu,_⟩:=quadP_m h0
   have hb:((viOf (quadP l)).2 != 0)=false:=by
    show ((((quadP l).2:Nat):Int) != 0)=false
    rw [h0];rfl
   rw [hb,if_neg Bool.false_ne_true,if_pos h0,hu]
   show (addr_Four (quadP l).1>>=fun t11=>some (t11,0))=_
   rw [hv,four_v4 hm,bindM_some]
  ·have hb:((viOf (quadP l)).2 != 0)=true:=by rw [bne_iff_ne];show (((quadP l).2:Nat):Int)≠0;omega
   rw [hb,if_pos rfl,if_neg h0,zero_mkA];rfl
def ofL(b:List UInt8):S_api_Addr×Int:=if b.length=4 then (mkA 4 (fourL b),0) else if b.length=16 then (mkA 6 b,0) else (mkA 0 z16,5)
def OfLoop(R:List Int→Int→S_api_Addr→Option S_api_Addr):Prop:=∀ xs i a,R xs i a=if (decide (i<(xs.length:Int)))=true then (if (0:Int)≤i∧i<(xs.length:Int) then if (0:Int)≤i∧i<16 then R xs (wr .i64 (i+1)) ({ a with f_B:=vset a.f_B i (lget xs i) }) else none else none) else (some a)
theorem of_loop{R:List Int→Int→S_api_Addr→Option S_api_Addr}(hR:OfLoop R)(V:Int)(b:List UInt8)(hb:b.length≤16):∀ (k i:Nat),i+k=b.length→R (ob b) (i:Int) (mkA V (b.take i++List.replicate (16-i) 0))=some (mkA V (b++List.replicate (16-b.length) 0)):=by
 intro k
 induction k with
 | zero =>
  intro i hi
  rw [hR,ob_length,if_neg (by rw [decide_eq_true_eq];omega),List.take_of_length_le (by omega),show i=b.length by omega]
 | succ k ih =>
  intro i hi
  obtain ⟨c,hc⟩:∃ c,b[i]? = some c:=⟨_,List.getElem?_eq_getElem (by omega)⟩
  have w:wr .i64 ((i:Int)+1)=((i+1:Nat):Int):=by rw [wr_i64 (by omega) (by omega)];omega
  have hA:(b.take i).length=i:=by rw [List.length_take];omega
  have hs:(b.take i++List.replicate (16-i) 0).set i c=b.take (i+1)++List.replicate (16-(i+1)) 0:=by
   have:16-i=(16-(i+1))+1:=by omega
   rw [this,List.replicate_succ,List.take_add_one,hc]
   have e:=List.set_append_right (s:=b.take i) (t:=0::List.replicate (16-(i+1)) 0) i c (by omega)
   rw [e,hA,Nat.sub_self]
   simp
  have hg:lget (ob b) (i:Int)=(c.toNat:Int):=lget_ob b i c hc
  rw [hR,ob_length,if_pos (decide_eq_true (by omega)),if_pos (by omega),if_pos (by omega),w,hg]
  show R (ob b) _ (S_api_Addr.mk V (vset (vb (b.take i++List.replicate (16-i) 0)) (i:Int) (c.toNat:Int)))=_
  rw [vset_vb (by simp;omega),hs]
  exact ih (i+1) (by omega)
theorem ofl0:OfLoop crawlwayref10_Of.l0:=fun xs i a=>crawlwayref10_Of.l0.eq_def xs i a
theorem ofl1:OfLoop crawlwayref10_Of.l1:=fun xs i a=>crawlwayref10_Of.l1.eq_def xs i a
theorem ref_of(b:List UInt8):crawlwayref10_Of (ob b)=some ((ofL b).1,decide ((ofL b).2=0)):=by
 unfold crawlwayref10_Of ofL
 rw [ob_length]
 have z4:({ ({ f_V:=(0:Int),f_B:=(Vector.replicate 16 (0:Int):(Vector Int 16)) }:S_api_Addr) with f_V:=4 }:S_api_Addr)=mkA 4 (List.replicate 16 0):=by
  show S_api_Addr.mk _ _=S_api_Addr.mk _ _
  rw [zero_vb]
 have z6:({ { ({ f_V:=(0:Int),f_B:=(Vector.replicate 16 (0:Int):(Vector Int 16)) }:S_api_Addr) with f_V:=4 } with f_V:=6 }:S_api_Addr)=mkA 6 (List.replicate 16 0):=by
  show S_api_Addr.mk _ _=S_api_Addr.mk _ _
  rw [zero_vb]
 rw [z6,z4,zero_mkA]
 by_cases h4:b.length=4
 ·have e4:((b.length:Int) != 4)=false:=by rw [h4];rfl
  have e16:((b.length:Int)==16)=false:=by rw [h4];rfl
  have:=of_loop ofl1 4 b (by omega) b.length 0 (by omega)
  rw [List.take_zero,List.nil_append,show ((0:Nat):Int)=0 from rfl,show 16-0=16 from rfl] at this
  rw [e4,if_neg Bool.false_ne_true,e16,if_neg Bool.false_ne_true,bindM_some,this,bindM_some,if_pos h4,h4];rfl
 ·have e4:((b.length:Int) != 4)=true:=by rw [bne_iff_ne];omega
  rw [e4,if_pos rfl,if_neg h4]
  by_cases h16:b.length=16
  ·have n16:((b.length:Int) != 16)=false:=by rw [h16];rfl
   have e16:((b.length:Int)==16)=true:=by rw [h16];rfl
   have:=of_loop ofl0 6 b (by omega) b.length 0 (by omega)
   rw [List.take_zero,List.nil_append,show ((0:Nat):Int)=0 from rfl,show 16-0=16 from rfl] at this
   rw [n16,if_neg Bool.false_ne_true,e16,if_pos rfl,bindM_some,this,bindM_some,if_pos h16,h16]
   show some (mkA 6 (b++[]),true)=_
   rw [List.append_nil];rfl
  ·have n16:((b.length:Int) != 16)=true:=by rw [bne_iff_ne];omega
   rw [n16,if_pos rfl,if_neg h16];rfl
theorem parts_many(l:List UInt8):(1<(parts 58 l).length)↔hasC l=true:=by
 cases hc:hasC l with
 | true =>
  obtain ⟨p,r,rfl,hp⟩:=(hasC_iff l).1 hc
  rw [parts_cons 58 r p hp]
  have:=parts_ne 58 r
  cases hq:parts 58 r with
  | nil=>exact absurd hq this
  | cons _ _=>simp
 | false=>rw [parts_none 58 l (hasC_no hc)];simp
theorem ref_parse10(l:List UInt8)(hl:l.length<100000):crawlwayref10_Parse (bs l)=some (adrP l):=by
 unfold crawlwayref10_Parse adrP
 have hp:=parts_ref 58 l (by omega)
 rw [show ((58:UInt8).toNat:Int)=58 from rfl] at hp
 rw [hp,bindM_some,List.length_map]
 cases hc:hasC l with
 | true =>
  have hm:=(parts_many l).2 hc
  rw [if_pos (decide_eq_true (by omega)),if_pos rfl,Col.ref_parse l hl,bindM_some]
  unfold Col.parseV
  cases hq:Col.parseL l with
  | none =>
   show (if (!false)=true then _ else _)=_
   rw [if_pos (show (!false)=true from rfl),zero_mkA];rfl
  | some G =>
   show (if (!true)=true then _ else _)=_
   rw [if_neg (by decide)];rfl
 | false =>
  have hm:¬ 1<(parts 58 l).length:=fun h=>by rw [(parts_many l).1 h] at hc;cases hc
  rw [if_neg (by rw [decide_eq_true_eq];omega),if_neg Bool.false_ne_true,quad_parse_ref l (by omega),bindM_some]
  unfold quadA
  by_cases h0:(quadP l).2=0
  ·obtain ⟨m,hm,hv,hu,_⟩:=quadP_m h0
   have hb:((viOf (quadP l)).2 != 0)=false:=by
    show ((((quadP l).2:Nat):Int) != 0)=false
    rw [h0];rfl
   rw [hb,if_neg Bool.false_ne_true,if_pos h0,hu]
   show (crawlwayref10_Of [vget (quadP l).1 0,vget (quadP l).1 1,vget (quadP l).1 2,vget (quadP l).1 3]>>=fun t13=>some (t13.1,0))=_
   rw [hv]
   match m,hm with
   | [a,b,c,d],hm =>
    have e0:vget (v4 [a,b,c,d]) 0=(a.toNat:Int):=vget_v4 hm 0 a rfl
    have e1:vget (v4 [a,b,c,d]) 1=(b.toNat:Int):=vget_v4 hm 1 b rfl
    have e2:vget (v4 [a,b,c,d]) 2=(c.toNat:Int):=vget_v4 hm 2 c rfl
    have e3:vget (v4 [a,b,c,d]) 3=(d.toNat:Int):=vget_v4 hm 3 d rfl
    rw [e0,e1,e2,e3]
    show (crawlwayref10_Of (ob [a,b,c,d])>>=_)=_
    rw [ref_of];rfl
  ·have hb:((viOf (quadP l)).2 != 0)=true:=by rw [bne_iff_ne];show (((quadP l).2:Nat):Int)≠0;omega
   rw [hb,if_pos rfl,if_neg h0,zero_mkA];rfl
def adrT(V:Int)(l:List UInt8):List UInt8:=if rightL V l=true then (if V=4 then qText (l.take 4) else Col.textL (Col.gr l)) else []
theorem addr_text{V:Int}{l:List UInt8}(hl:l.length=16):addr_Text (mkA V l)=some (bs (adrT V l)):=by
 unfold addr_Text adrT
 rw [right_code hl,bindM_some]
 cases hr:rightL V l with
 | false=>rfl
 | true =>
  have h4l:(l.take 4).length=4:=by rw [List.length_take];omega
  rw [if_neg (by decide),if_pos rfl]
  by_cases h4:V=4
  ·have e:((mkA V l).f_V==4)=true:=by show (V==4)=true;rw [h4];rfl
   rw [e,if_pos rfl,if_pos h4]
   show (if 4≤(lsub (vb l).toList 0 4).length then (quad_Text (lvec 4 (lsub (vb l).toList 0 4))>>=fun t9=>some t9) else none)=_
   have hv:lvec 4 (lsub (vb l).toList 0 4)=v4 (l.take 4):=v4_of (take4 hl)
   rw [if_pos (take4_len hl),hv,quad_text h4l];rfl
  ·have e:((mkA V l).f_V==4)=false:=by rw [beq_eq_false_iff_ne];exact h4
   rw [e,if_neg Bool.false_ne_true,if_neg h4]
   show (colon_Text (Col.v16 l)>>=fun t10=>some t10)=_
   rw [Col.text_ok hl];rfl
theorem four_vget{l:List UInt8}(hl:l.length=16):vset (vset (vset (vset (Vector.replicate 4 (0:Int):(Vector Int 4)) 0 (vget (vb l) 0)) 1 (vget (vb l) 1)) 2 (vget (vb l) 2)) 3 (vget (vb l) 3)=v4 (l.take 4):=by
 have g0:=vget_vb hl 0 (by omega)
 have g1:=vget_vb hl 1 (by omega)
 have g2:=vget_vb hl 2 (by omega)
 have g3:=vget_vb hl 3 (by omega)
 rw [show ((0:Nat):Int)=0 from rfl] at g0
 rw [show ((1:Nat):Int)=1 from rfl] at g1
 rw [show ((2:Nat):Int)=2 from rfl] at g2
 rw [show ((3:Nat):Int)=3 from rfl] at g3
 apply v4_of
 rw [g0,g1,g2,g3]
 obtain ⟨a,b,c,d,r,rfl⟩:∃ a b c d r,l=a::b::c::d::r:=by
  obtain ⟨a,l1,rfl⟩:=List.exists_cons_of_length_pos (show 0<l.length by omega)
  rw [List.length_cons] at hl
  obtain ⟨b,l2,rfl⟩:=List.exists_cons_of_length_pos (show 0<l1.length by omega)
  rw [List.length_cons] at hl
  obtain ⟨c,l3,rfl⟩:=List.exists_cons_of_length_pos (show 0<l2.length by omega)
  rw [List.length_cons] at hl
  obtain ⟨d,l4,rfl⟩:=List.exists_cons_of_length_pos (show 0<l3.length by omega)
  exact ⟨a,b,c,d,l4,rfl⟩
 have e0:bg (a::b::c::d::r) 0=a.toNat:=rfl
 have e1:bg (a::b::c::d::r) 1=b.toNat:=rfl
 have e2:bg (a::b::c::d::r) 2=c.toNat:=rfl
 have e3:bg (a::b::c::d::r) 3=d.toNat:=rfl
 have et:(a::b::c::d::r).take 4=[a,b,c,d]:=rfl
 rw [e0,e1,e2,e3,et]
 simp only [vset_toList]
 rfl
theorem ref_text10{V:Int}{l:List UInt8}(hl:l.length=16):crawlwayref10_Text (mkA V l)=some (bs (adrT V l)):=by
 unfold crawlwayref10_Text adrT
 rw [right_ref hl,bindM_some]
 cases hr:rightL V l with
 | false=>rfl
 | true =>
  have h4l:(l.take 4).length=4:=by rw [List.length_take];omega
  rw [if_neg (by decide),if_pos rfl]
  rcases right_cases hr with h6 | ⟨h4,_⟩
  ·subst h6
   rw [if_pos (show ((mkA 6 l).f_V==6)=true from rfl),if_neg (by decide)]
   show (crawlwayref09_Text (Col.v16 l)>>=fun t5=>some t5)=_
   rw [Col.refText_ok hl];rfl
  ·subst h4
   have e46:((mkA 4 l).f_V==6)=false:=beq_eq_false_iff_ne.2 (by show (4:Int)≠6;decide)
   rw [e46,if_neg Bool.false_ne_true,if_pos rfl]
   show (crawlwayref08_Text (vset (vset (vset (vset (Vector.replicate 4 (0:Int):(Vector Int 4)) 0 (vget (vb l) 0)) 1 (vget (vb l) 1)) 2 (vget (vb l) 2)) 3 (vget (vb l) 3))>>=fun t6=>some t6)=_
   rw [four_vget hl,refQuad_loop h4l];rfl
theorem dec_nocolon(n:Nat):∀ x∈Lib.decDigits n,x≠58:=fun x hx=>by
 have:=dig_iff.1 (List.all_eq_true.1 (decDigits_dig n) x hx)
 intro e;subst e
 have:(58:UInt8).toNat=58:=rfl
 omega
theorem qText_nocolon{m:List UInt8}(hm:m.length=4):hasC (qText m)=false:=by
 cases h:hasC (qText m) with
 | false=>rfl
 | true =>
  exfalso
  unfold hasC at h
  obtain ⟨x,hx,h3⟩:=List.any_eq_true.1 h
  have h58:=beq_iff_eq.1 h3
  match m,hm with
  | [a,b,c,d],_ =>
   have hx':x∈Lib.decDigits a.toNat++46::(Lib.decDigits b.toNat++46::(Lib.decDigits c.toNat++46::Lib.decDigits d.toNat)):=hx
   simp only [List.mem_append,List.mem_cons] at hx'
   rcases hx' with h | h | h | h | h | h | h
   ·exact dec_nocolon _ x h h58
   ·subst h;cases h58
   ·exact dec_nocolon _ x h h58
   ·subst h;cases h58
   ·exact dec_nocolon _ x h h58
   ·subst h;cases h58
   ·exact dec_nocolon _ x h h58
theorem hasC_app(p r:List UInt8):hasC (p++58::r)=true:=by unfold hasC;simp
theorem textL_colon{G:List Nat}(h8:G.length=8):hasC (Col.textL G)=true:=by
 unfold Col.textL
 split
 ·match G,h8 with
  | a::b::r,_=>exact hasC_app _ _
 ·exact hasC_app _ _
theorem parse_text10{V:Int}{l:List UInt8}(hl:l.length=16)(hr:rightL V l=true):adrP (adrT V l)=(mkA V l,0):=by
 unfold adrT adrP
 rw [if_pos hr]
 rcases right_cases hr with h6 | ⟨h4,hlow⟩
 ·subst h6
  have hg:(Col.gr l).length=8:=by rw [Col.gr_len,hl]
  rw [if_neg (show ¬ (6:Int)=4 by decide),textL_colon hg,if_pos rfl,Col.parse_text _ (Col.gr_lt l) hg]
  show (mkA 6 (Col.un (Col.gr l)),(0:Int))=_
  rw [Col.un_gr l (by omega)]
 ·subst h4
  have h4l:(l.take 4).length=4:=by rw [List.length_take];omega
  rw [if_pos rfl,qText_nocolon h4l,if_neg Bool.false_ne_true]
  unfold quadA
  rw [quadP_text h4l]
  show (if (0:Nat)=0 then (mkA 4 (fourL (unb (v4 (l.take 4)).toList)),(0:Int)) else _)=_
  rw [if_pos rfl,v4_toList h4l,unb_ob,←(low_iff hl).1 hlow]
theorem adrT_len{V:Int}{l:List UInt8}(hl:l.length=16):(adrT V l).length≤42:=by
 unfold adrT
 split
 ·split
  ·have:=qText_len (m:=l.take 4) (by rw [List.length_take];omega);omega
  ·exact Col.textL_len _ (Col.gr_lt l) (by rw [Col.gr_len,hl])
 ·simp
end Go.Proofs.YtkkmmpofdcccmaaGreatDoor.AdrT
namespace Go.Proofs.YtkkmmpofdcccmaaGreatDoor.Host
open E Go.RowKit
open Adr AdrT
def isB:List UInt8→Bool
 | x::y::_=>x==93&&y==58
 | _=>false
theorem isB_iff(r:List UInt8):isB r=true↔∃ r2,r=93::58::r2:=by
 match r with
 | []=>simp [isB]
 | [x]=>simp [isB]
 | x::y::r=>simp [isB]
def cutL:List UInt8→Option (List UInt8×List UInt8)
 | []=>none
 | c::r=>if isB (c::r)=true then some ([],r.drop 1) else (cutL r).map fun q=>(c::q.1,q.2)
theorem cutL_eq:∀ {l a b:List UInt8},cutL l=some (a,b)→l=a++93::58::b
 | [],_,_,h=>by cases h
 | c::r,a,b,h=>by
  unfold cutL at h
  split at h
  ·next hc =>
   obtain ⟨r2,hr⟩:=(isB_iff _).1 hc
   cases h
   rw [hr]
   obtain ⟨_,rfl⟩:=List.cons.inj hr
   rfl
  ·obtain ⟨q,hq,h⟩:=Option.map_eq_some_iff.1 h
   obtain ⟨a',b'⟩:=q
   cases h
   rw [cutL_eq hq];rfl
theorem pre_isB(l:List UInt8):List.isPrefixOf [93,58] l=isB l:=by
 match l with
 | []=>rfl
 | [x]=>simp [List.isPrefixOf,isB]
 | x::y::r=>simp only [List.isPrefixOf,isB,Bool.and_true];rw [BEq.comm (a:=(93:UInt8)),BEq.comm (a:=(58:UInt8))]
theorem index_cut:∀ (l:List UInt8),Lib.index l [93,58]=match cutL l with | some (a,_)=>(a.length:Int) | none=>-1
 | []=>rfl
 | c::r=>by
  unfold Lib.index cutL
  rw [pre_isB]
  by_cases h:isB (c::r)=true
  ·rw [if_pos h,if_pos h];rfl
  ·rw [if_neg h,if_neg h,index_cut r]
   cases cutL r with
   | none=>rfl
   | some q =>
    obtain ⟨a,b⟩:=q
    have:(((a.length:Nat):Int) == -1)=false:=by rw [beq_eq_false_iff_ne];omega
    simp only [Option.map_some,List.length_cons]
    rw [this,if_neg Bool.false_ne_true]
    exact (Int.natCast_succ _).symm
theorem lib_cut(l:List UInt8):Lib.cut l [93,58]=match cutL l with | some (a,b)=>(a,b,true) | none=>(l,[],false):=by
 unfold Lib.cut
 rw [index_cut]
 cases h:cutL l with
 | none=>rfl
 | some q =>
  obtain ⟨a,b⟩:=q
  have hl:=cutL_eq h
  simp only
  rw [if_pos (by omega),Int.toNat_natCast]
  have e1:l.take a.length=a:=by rw [hl];exact List.take_left' rfl
  have e2:l.drop (a.length+([93,58]:List UInt8).length)=b:=by
   rw [hl,List.drop_append,List.drop_eq_nil_of_le (by omega)]
   simp only [List.length_cons,List.length_nil,List.nil_append]
   rw [show a.length+(0+1+1)-a.length=2 by omega];rfl
  rw [e1,e2]
theorem scut_eq(l:List UInt8):scut (bs l) (⟨#[93,58]⟩:ByteArray)=match cutL l with | some (a,b)=>(bs a,bs b,true) | none=>(bs l,bs [],false):=by
 have h:=lib_cut l
 unfold scut
 rw [bs_list]
 show ((⟨(Lib.cut l [93,58]).1.toArray⟩:ByteArray),(⟨(Lib.cut l [93,58]).2.1.toArray⟩:ByteArray),(Lib.cut l [93,58]).2.2)=_
 rw [h]
 cases cutL l with
 | none=>rfl
 | some q=>rfl
theorem index_colon(l:List UInt8):decide (0≤Lib.indexByte l 58)=hasC l:=by
 cases hc:hasC l with
 | true =>
  obtain ⟨p,r,rfl,hp⟩:=(hasC_iff l).1 hc
  rw [index_at p r 58 hp]
  exact decide_eq_true (by omega)
 | false =>
  have:=cut_none l 58 (hasC_no hc)
  have h1:=Lib.indexByte_ge l 58
  refine decide_eq_false fun h=>?_
  obtain ⟨o,ho⟩:=Int.eq_ofNat_of_zero_le h
  have:=(Lib.indexByte_some ho).1
  exact hasC_no hc 58 (List.mem_of_getElem? this) rfl
def f58:List UInt8→Option (List UInt8×List UInt8)
 | []=>none
 | c::r=>if c=58 then some ([],r) else (f58 r).map fun q=>(c::q.1,q.2)
theorem f58_at(r:List UInt8):∀ (p:List UInt8),(∀ x∈p,x≠58)→f58 (p++58::r)=some (p,r)
 | [],_=>by
  show (if (58:UInt8)=58 then some ([],r) else _)=_
  rw [if_pos rfl]
 | c::p,h=>by
  show (if c=58 then _ else (f58 (p++58::r)).map _)=_
  rw [if_neg (h c (List.mem_cons_self ..)),f58_at r p fun x hx=>h x (List.mem_cons_of_mem _ hx)];rfl
theorem f58_none:∀ (l:List UInt8),(∀ x∈l,x≠58)→f58 l=none
 | [],_=>rfl
 | c::r,h=>by
  unfold f58
  rw [if_neg (h c (List.mem_cons_self ..)),f58_none r fun x hx=>h x (List.mem_cons_of_mem _ hx)];rfl
def six(l:List UInt8):Bool:=l.head? == some 91
def halL(l:List UInt8):Option (List UInt8×List UInt8):=if six l=true then (cutL (l.drop 1)).bind fun q=>if hasC q.1=true then some q else none else f58 l
theorem cutPrefix(l:List UInt8):strings_CutPrefix (bs l) (⟨#[91]⟩:ByteArray)=some (if six l=true then (bs (l.drop 1),true) else (bs l,false)):=by
 have hp:stringslite_HasPrefix (bs l) (⟨#[91]⟩:ByteArray)=some (six l):=by
  unfold stringslite_HasPrefix
  cases l with
  | nil=>rw [if_neg (by decide)];rfl
  | cons x r =>
   have hsz:(bs (x::r)).size=r.length+1:=bs_size _
   have h1:((⟨#[91]⟩:ByteArray).size:Int)=1:=rfl
   rw [h1,hsz,if_pos (decide_eq_true (by omega)),if_pos (by omega)]
   refine congrArg some ?_
   show seq ((bs (x::r)).extract 0 1) (bs [91])=_
   rw [bs_extract]
   by_cases hx:x=91
   ·subst hx
    exact seq_self _
   ·have hf:six (x::r)=false:=by simp [six,hx]
    rw [hf]
    cases hc:seq (bs ((List.take 1 (x::r)).drop 0)) (bs [91]) with
    | false=>rfl
    | true =>
     have:=bs_inj ((seq_iff _ _).1 hc)
     simp at this
     exact absurd this hx
 unfold strings_CutPrefix stringslite_CutPrefix
 rw [hp,bindM_some]
 cases h:six l with
 | false=>rfl
 | true =>
  have hne:1≤l.length:=by
   cases l with
   | nil=>cases h
   | cons x r=>simp
  have h1:((⟨#[91]⟩:ByteArray).size:Int)=1:=rfl
  have hx:(bs l).extract (Int.toNat 1) (Int.toNat ((bs l).size:Int))=bs (l.drop 1):=by
   rw [Int.toNat_natCast,bs_extract,bs_size,List.take_of_length_le (Nat.le_refl _)];rfl
  rw [if_neg (by decide),h1,if_pos (by rw [bs_size];omega),hx];rfl
theorem halves_ok(l:List UInt8)(hl:l.length<1000000):∃ a b,hostport_halves (bs l)=some (a,b,(halL l).isSome)∧∀ h p,halL l=some (h,p)→a=bs h∧b=bs p:=by
 unfold hostport_halves halL
 rw [cutPrefix,bindM_some]
 cases h6:six l with
 | true =>
  have hd:(l.drop 1).length<1000000:=by rw [List.length_drop];omega
  rw [if_pos rfl]
  show ∃ a b,(if true=true then (if (bs (l.drop 1)).size<4294967281 then if (scut (bs (l.drop 1)) (⟨#[93,58]⟩:ByteArray)).2.2=true then some ((scut (bs (l.drop 1)) (⟨#[93,58]⟩:ByteArray)).1,(scut (bs (l.drop 1)) (⟨#[93,58]⟩:ByteArray)).2.1,decide (0≤Lib.indexByte (scut (bs (l.drop 1)) (⟨#[93,58]⟩:ByteArray)).1.data.toList 58)) else some ((scut (bs (l.drop 1)) (⟨#[93,58]⟩:ByteArray)).1,(scut (bs (l.drop 1)) (⟨#[93,58]⟩:ByteArray)).2.1,false) else none) else _)=_∧_
  rw [if_pos rfl,if_pos (by rw [bs_size];omega),scut_eq]
  cases hc:cutL (l.drop 1) with
  | none =>
   exact ⟨_,_,rfl,fun h p e=>by cases e⟩
  | some q =>
   obtain ⟨a,b⟩:=q
   simp only [if_true,bs_list,index_colon,Option.bind_some]
   cases hasC a with
   | true=>exact ⟨_,_,rfl,fun h p e=>by cases e;exact ⟨rfl,rfl⟩⟩
   | false=>exact ⟨_,_,rfl,fun h p e=>by cases e⟩
 | false =>
  have hb:bt (⟨#[58]⟩:ByteArray) 0=58:=rfl
  rw [if_neg Bool.false_ne_true]
  show ∃ a b,(if false=true then _ else (if (0:Int)≤0∧(0:Int)<((⟨#[58]⟩:ByteArray).size:Int) then lines_Cut (bs l) (bt (⟨#[58]⟩:ByteArray) 0)>>=fun t6=>some (t6.1,t6.2.1,t6.2.2) else none))=_∧_
  rw [if_neg Bool.false_ne_true,if_pos (by decide),hb]
  have h58:((58:UInt8).toNat:Int)=58:=rfl
  rcases split_at 58 l with h2 | ⟨p,r,rfl,h2⟩
  ·have hcut:=cut_none l 58 h2
   rw [h58] at hcut
   rw [hcut,bindM_some,if_neg Bool.false_ne_true,f58_none l h2]
   exact ⟨_,_,rfl,fun h p e=>by cases e⟩
  ·have hcut:=cut_some p r 58 h2 (by simp at hl;omega)
   rw [h58] at hcut
   rw [hcut,bindM_some,if_neg Bool.false_ne_true,f58_at r p h2]
   exact ⟨_,_,rfl,fun h q e=>by cases e;exact ⟨rfl,rfl⟩⟩
def mkE(A:S_api_Addr)(n:Int):S_api_Endpoint:={ f_A:=A,f_Port:=n }
def zE:S_api_Endpoint:={ f_A:=({ f_V:=(0:Int),f_B:=(Vector.replicate 16 (0:Int):(Vector Int 16)) }:S_api_Addr),f_Port:=(0:Int) }
def endQ(h p:List UInt8):S_api_Endpoint×Int:=if (adrP h).2=0 then (if (rdU p 65535).2=0 then (if (rdU p 65535).1=0 then (zE,6) else (mkE (adrP h).1 ((rdU p 65535).1:Int),0)) else (zE,((rdU p 65535).2:Int))) else (zE,(adrP h).2)
def endP(l:List UInt8):S_api_Endpoint×Int:=match halL l with
 | some (h,p)=>endQ h p
 | none=>(zE,5)
theorem tail_ok{P:Option (S_api_Addr×Int)}{R:Option (Int×Int)}(h p:List UInt8)(hP:P=some (adrP h))(hR:R=some (iiOf (rdU p 65535))) :
  (P>>=fun t4=>if (t4.2 != 0)=true then (some (zE,t4.2)) else (R>>=fun t7=>if (t7.2 != 0)=true then (some (zE,t7.2)) else (if (t7.1==0)=true then (some (zE,6)) else (some ({ { zE with f_A:=t4.1 } with f_Port:=wr .i64 t7.1 },0)))))=some (endQ h p):=by
 subst hP hR
 rw [bindM_some]
 unfold endQ
 have hle:=rdU_le p 65535
 by_cases h1:(adrP h).2=0
 ·have e:((adrP h).2 != 0)=false:=by rw [h1];rfl
  rw [e,if_neg Bool.false_ne_true,if_pos h1,bindM_some]
  show (if ((((rdU p 65535).2:Nat):Int) != 0)=true then _ else (if ((((rdU p 65535).1:Nat):Int)==0)=true then _ else some (S_api_Endpoint.mk (adrP h).1 (wr .i64 (((rdU p 65535).1:Nat):Int)),(0:Int))))=_
  by_cases h2:(rdU p 65535).2=0
  ·have e2:((((rdU p 65535).2:Nat):Int) != 0)=false:=by rw [h2];rfl
   rw [e2,if_neg Bool.false_ne_true,if_pos h2]
   by_cases h3:(rdU p 65535).1=0
   ·rw [h3,if_pos (by rfl),if_pos rfl]
   ·have e3:((((rdU p 65535).1:Nat):Int)==0)=false:=by rw [beq_eq_false_iff_ne];omega
    rw [e3,if_neg Bool.false_ne_true,if_neg h3,wr_i64 (by omega) (by omega)];rfl
  ·have e2:((((rdU p 65535).2:Nat):Int) != 0)=true:=by rw [bne_iff_ne];omega
   rw [e2,if_pos rfl,if_neg h2];rfl
 ·have e:((adrP h).2 != 0)=true:=by rw [bne_iff_ne];exact h1
  rw [e,if_pos rfl,if_neg h1]
theorem halL_len{l h p:List UInt8}(e:halL l=some (h,p)):h.length≤l.length∧p.length≤l.length:=by
 unfold halL at e
 split at e
 ·obtain ⟨q,hq,e⟩:=Option.bind_eq_some_iff.1 e
  split at e
  ·cases e
   have:=congrArg List.length (cutL_eq hq)
   rw [List.length_drop,List.length_append,List.length_cons,List.length_cons] at this
   omega
  ·cases e
 ·rcases split_at 58 l with h2 | ⟨a,r,rfl,h2⟩
  ·rw [f58_none l h2] at e;cases e
  ·rw [f58_at r a h2] at e
   cases e
   rw [List.length_append,List.length_cons]
   omega
theorem host_parse(l:List UInt8)(hl:l.length<100000):hostport_Parse (bs l)=some (endP l):=by
 unfold hostport_Parse endP
 obtain ⟨a,b,hh,hab⟩:=halves_ok l (by omega)
 rw [hh,bindM_some]
 cases hq:halL l with
 | none =>
  show (if (!false)=true then _ else _)=_
  rw [if_pos (show (!false)=true from rfl)];rfl
 | some q =>
  obtain ⟨h,p⟩:=q
  obtain ⟨rfl,rfl⟩:=hab h p hq
  have hlen:=halL_len hq
  show (if (!true)=true then _ else _)=_
  rw [if_neg (by decide)]
  exact tail_ok h p (addr_parse h (by omega)) (by
   have:=read_code (bs p) 65535 (by rw [bs_size];omega) (by omega)
   rw [bs_list] at this
   exact this)
theorem u8_93(x:UInt8):((x.toNat:Int)==93)=(x==93):=by
 by_cases h:x=93
 ·subst h;rfl
 ·have h2:x.toNat≠93:=fun e=>h (UInt8.toNat_inj.1 e)
  have h3:(x==93)=false:=by simp [h]
  rw [h3,beq_eq_false_iff_ne];omega
theorem cut_loop(l:List UInt8)(hl:l.length<1000000):∀ (k i:Nat),l.length-i=k→i≤l.length →
  crawlwayref12_cut.l0 (bs l) (i:Int)=some (match cutL (l.drop i) with | some (a,b)=>.ret (bs (l.take i++a),bs b,true) | none=>.nx ()):=by
 intro k
 induction k with
 | zero =>
  intro i hk hi
  have w:wr .i64 ((i:Int)+1)=((i+1:Nat):Int):=by rw [wr_i64 (by omega) (by omega)];omega
  rw [crawlwayref12_cut.l0.eq_def,w,bs_size,if_neg (by rw [decide_eq_true_eq];omega),List.drop_eq_nil_of_le (by omega)];rfl
 | succ k ih =>
  intro i hk hi
  have w:wr .i64 ((i:Int)+1)=((i+1:Nat):Int):=by rw [wr_i64 (by omega) (by omega)];omega
  have w2:wr .i64 ((i:Int)+2)=((i+2:Nat):Int):=by rw [wr_i64 (by omega) (by omega)];omega
  obtain ⟨c,hc,hd⟩:=drop_get l i (by omega)
  have hbc:bt (bs l) (i:Int)=(c.toNat:Int):=bt_at (by rw [bs_list];exact hc)
  have hi1:=ih (i+1) (by omega) (by omega)
  have htk:l.take (i+1)=l.take i++[c]:=by rw [List.take_add_one,hc];rfl
  rw [crawlwayref12_cut.l0.eq_def,w,bs_size]
  by_cases h1:i+1<l.length
  ·obtain ⟨d,hdd,hd2⟩:=drop_get l (i+1) h1
   have hbd:bt (bs l) ((i+1:Nat):Int)=(d.toNat:Int):=bt_at (by rw [bs_list];exact hdd)
   have hnot:∀ (hB:isB (c::d::l.drop (i+1+1))=false),crawlwayref12_cut.l0 (bs l) ((i+1:Nat):Int)=some (match cutL (c::d::l.drop (i+1+1)) with | some (a,b)=>.ret (bs (l.take i++a),bs b,true) | none=>.nx ()):=by
    intro hB
    have e:cutL (c::d::l.drop (i+1+1))=(cutL (d::l.drop (i+1+1))).map fun q=>(c::q.1,q.2):=by
     conv=>lhs;unfold cutL
     rw [hB,if_neg Bool.false_ne_true]
    rw [hi1,e,hd2]
    cases cutL (d::l.drop (i+1+1)) with
    | none=>rfl
    | some q=>obtain ⟨a,b⟩:=q;simp [htk]
   rw [if_pos (decide_eq_true (by omega)),if_pos (by omega),hbc,u8_93,hbd,Col.u8_58,w2,hd,hd2]
   by_cases hc93:c=93
   ·subst hc93
    rw [if_pos (by rfl),if_pos (by omega)]
    by_cases hd58:d=58
    ·subst hd58
     have x1:(bs l).extract (Int.toNat 0) (Int.toNat (i:Int))=bs (l.take i):=by rw [Int.toNat_natCast,bs_extract];rfl
     have x2:(bs l).extract (Int.toNat ((i+2:Nat):Int)) (Int.toNat ((l.length:Nat):Int))=bs (l.drop (i+2)):=by
      rw [Int.toNat_natCast,Int.toNat_natCast,bs_extract,List.take_of_length_le (Nat.le_refl _)]
     rw [if_pos (by rfl),if_pos (by omega),if_pos (by omega),x1,x2]
     have e:cutL (93::58::l.drop (i+1+1))=some ([],l.drop (i+1+1)):=rfl
     rw [e]
     simp
    ·have hf:(d==58)=false:=by simp [hd58]
     rw [hf,if_neg Bool.false_ne_true]
     exact hnot (by simp [isB,hd58])
   ·have hf:(c==93)=false:=by simp [hc93]
    rw [hf,if_neg Bool.false_ne_true]
    exact hnot (by simp [isB,hc93])
  ·rw [if_neg (by rw [decide_eq_true_eq];omega),hd,List.drop_eq_nil_of_le (show l.length≤i+1 by omega)]
   rfl
theorem refcut_ok(l:List UInt8)(hl:l.length<1000000):crawlwayref12_cut (bs l)=some (match cutL l with | some (a,b)=>(bs a,bs b,true) | none=>(bs [],bs [],false)):=by
 unfold crawlwayref12_cut
 have h:=cut_loop l hl l.length 0 (by omega) (by omega)
 rw [show ((0:Nat):Int)=0 from rfl,List.drop_zero] at h
 rw [h,bindM_some]
 cases cutL l with
 | none=>rfl
 | some q=>obtain ⟨a,b⟩:=q;simp
theorem parts58(h:List UInt8)(hl:h.length<1000000):crawlwayref06_Parts (bs h) 58=some ((parts 58 h).map bs):=by
 have:=parts_ref 58 h hl
 rwa [show ((58:UInt8).toNat:Int)=58 from rfl] at this
theorem many58(h:List UInt8):decide ((((parts 58 h).map bs).length:Int)>1)=hasC h:=by
 rw [List.length_map]
 cases hc:hasC h with
 | true=>exact decide_eq_true (by have:=(parts_many h).2 hc;omega)
 | false=>exact decide_eq_false fun h2=>by have:=(parts_many h).1 (by omega);rw [this] at hc;cases hc
theorem first_part(p r:List UInt8)(h:∀ x∈p,x≠58):lget ((parts 58 (p++58::r)).map bs) 0=bs p:=by
 rw [parts_cons 58 r p h];rfl
theorem ref_read(p:List UInt8)(hp:p.length<1000000):crawlwayref03_Read (bs p) 65535=some (iiOf (rdU p 65535)):=by
 have:=read_ref (bs p) 65535 (by rw [bs_size];omega) (by omega)
 rw [bs_list] at this
 exact this
theorem plain_ok(l:List UInt8)(hl:l.length<100000)(h6:six l=false)(b:Bool)(hb:b=false) :
  (crawlwayref06_Parts (bs l) 58>>=fun t18=>if (0:Int)≤0∧0<(t18.length:Int) then if (decide ((t18.length:Int)>1))=true then (if (0:Int)≤0∧0<(t18.length:Int) then if (0:Int)≤wr .i64 (((lget t18 0).size:Int)+1)∧wr .i64 (((lget t18 0).size:Int)+1)≤((bs l).size:Int)∧((bs l).size:Int)≤((bs l).size:Int) then if (!(decide ((t18.length:Int)>1)))=true then (some (zE,5)) else (crawlwayref06_Parts (lget t18 0) 58>>=fun t32=>if (decide ((t32.length:Int)>1) != b)=true then (some (zE,5)) else (crawlwayref10_Parse (lget t18 0)>>=fun t36=>if (t36.2 != 0)=true then (some (zE,t36.2)) else (crawlwayref03_Read ((bs l).extract (Int.toNat (wr .i64 (((lget t18 0).size:Int)+1))) (Int.toNat ((bs l).size:Int))) 65535>>=fun t39=>if (t39.2 != 0)=true then (some (zE,t39.2)) else (if (t39.1==0)=true then (some (zE,6)) else (some ({ { zE with f_A:=t36.1 } with f_Port:=wr .i64 t39.1 },0)))))) else none else none) else (if (!(decide ((t18.length:Int)>1)))=true then (some (zE,5)) else (crawlwayref06_Parts (lget t18 0) 58>>=fun t43=>if (decide ((t43.length:Int)>1) != b)=true then (some (zE,5)) else (crawlwayref10_Parse (lget t18 0)>>=fun t47=>if (t47.2 != 0)=true then (some (zE,t47.2)) else (crawlwayref03_Read (⟨#[]⟩:ByteArray) 65535>>=fun t50=>if (t50.2 != 0)=true then (some (zE,t50.2)) else (if (t50.1==0)=true then (some (zE,6)) else (some ({ { zE with f_A:=t47.1 } with f_Port:=wr .i64 t50.1 },0))))))) else none)=some (endP l):=by
 subst hb
 have hne:=parts_ne 58 l
 have h0:(0:Int)≤0∧(0:Int)<(((parts 58 l).map bs).length:Int):=by
  rw [List.length_map]
  cases hq:parts 58 l with
  | nil=>exact absurd hq hne
  | cons _ _=>simp
 unfold endP halL
 rw [h6,if_neg Bool.false_ne_true,parts58 l (by omega),bindM_some,if_pos h0,many58]
 rcases split_at 58 l with h2 | ⟨p,r,rfl,h2⟩
 ·have hc:hasC l=false:=by
   cases h:hasC l with
   | false=>rfl
   | true =>
    obtain ⟨p,r,rfl,_⟩:=(hasC_iff l).1 h
    exact absurd rfl (h2 58 (by simp))
  rw [hc,if_neg Bool.false_ne_true,if_pos (show (!false)=true from rfl),f58_none l h2]
 ·have hc:hasC (p++58::r)=true:=hasC_app p r
  have hpc:hasC p=false:=by
   cases h:hasC p with
   | false=>rfl
   | true =>
    obtain ⟨p',r',rfl,_⟩:=(hasC_iff p).1 h
    exact absurd rfl (h2 58 (by simp))
  have hlen:(p++58::r).length=p.length+(r.length+1):=by simp
  have w:wr .i64 (((bs p).size:Int)+1)=((p.length+1:Nat):Int):=by rw [bs_size,wr_i64 (by omega) (by omega)];omega
  have x:(bs (p++58::r)).extract (Int.toNat ((p.length+1:Nat):Int)) (Int.toNat ((bs (p++58::r)).size:Int))=bs r:=by
   rw [Int.toNat_natCast,Int.toNat_natCast,bs_extract,bs_size,List.take_of_length_le (Nat.le_refl _),List.drop_append,List.drop_eq_nil_of_le (by omega),show p.length+1-p.length=1 by omega];rfl
  rw [hc,if_pos rfl,if_pos h0,first_part p r h2,w,if_pos (by rw [bs_size];omega),if_neg (show ¬ (!true)=true by decide),parts58 p (by omega),bindM_some,many58,hpc,if_neg (by decide),x,f58_at r p h2]
  exact tail_ok p r (ref_parse10 p (by omega)) (ref_read r (by omega))
theorem ref_parse12(l:List UInt8)(hl:l.length<100000):crawlwayref12_Parse (bs l)=some (endP l):=by
 unfold crawlwayref12_Parse
 cases l with
 | nil =>
  rw [if_neg (by decide)]
  exact plain_ok [] hl rfl false rfl
 | cons x r =>
  have hb:bt (bs (x::r)) 0=(x.toNat:Int):=bt_at (i:=0) (by rw [bs_list];rfl)
  have hs:(0:Int)≤0∧(0:Int)<((bs (x::r)).size:Int):=by rw [bs_size,List.length_cons];omega
  rw [if_pos (decide_eq_true hs.2),if_pos hs,hb]
  by_cases hx:x=91
  ·subst hx
   have e91:(((91:UInt8).toNat:Int)==91)=true:=rfl
   have hx1:(bs (91::r)).extract (Int.toNat 1) (Int.toNat ((bs (91::r)).size:Int))=bs r:=by
    rw [Int.toNat_natCast,bs_extract,bs_size,List.take_of_length_le (Nat.le_refl _)];rfl
   have h6:six (91::r)=true:=rfl
   simp only [List.length_cons] at hl
   rw [e91,if_pos rfl,if_pos (by rw [bs_size,List.length_cons];omega),hx1,refcut_ok r (by omega),bindM_some]
   unfold endP halL
   rw [h6,if_pos rfl]
   show _=some (match (cutL r).bind fun q=>if hasC q.1=true then some q else none with | some (h,p)=>endQ h p | none=>(zE,5))
   cases hc:cutL r with
   | none=>rw [if_pos (show (!false)=true from rfl)];rfl
   | some q =>
    obtain ⟨a,b⟩:=q
    have hlen:=congrArg List.length (cutL_eq hc)
    rw [List.length_append,List.length_cons,List.length_cons] at hlen
    simp only [Option.bind_some]
    rw [if_neg (show ¬ (!true)=true by decide),parts58 a (by omega),bindM_some,many58]
    cases ha:hasC a with
    | false =>
     rw [if_pos (by decide)]
     simp only [Bool.false_eq_true,if_false];rfl
    | true =>
     rw [if_neg (by decide)]
     simp only [if_true]
     exact tail_ok a b (ref_parse10 a (by omega)) (ref_read b (by omega))
  ·have e91:((x.toNat:Int)==91)=false:=by
    rw [beq_eq_false_iff_ne]
    intro e
    exact hx (UInt8.toNat_inj.1 (by show x.toNat=91;omega))
   have h6:six (x::r)=false:=by simp [six,hx]
   rw [e91,if_neg Bool.false_ne_true]
   exact plain_ok (x::r) hl h6 false rfl
theorem exists_mkE(a:S_api_Endpoint)(h:ok_api_Endpoint a):∃ V l n,a=mkE (mkA V l) n∧l.length=16∧(Lit.int .i64 n).wf=true:=by
 obtain ⟨V,l,hA,hl,_⟩:=exists_mkA a.f_A h.1
 refine ⟨V,l,a.f_Port,?_,hl,h.2⟩
 cases a with | mk A n =>
 simp only at hA
 subst hA;rfl
def rightE(V:Int)(l:List UInt8)(n:Int):Bool:=rightL V l&&(decide (1≤n)&&decide (n≤65535))
theorem right_code12{V n:Int}{l:List UInt8}(hl:l.length=16):hostport_Right (mkE (mkA V l) n)=some (rightE V l n):=by
 unfold hostport_Right rightE
 show (addr_Right (mkA V l)>>=fun t2=>if t2=true then (if decide (n≥1)=true then some (decide (n≤65535)) else some false) else some false)=_
 rw [right_code hl,bindM_some]
 cases rightL V l with
 | false=>rfl
 | true =>
  rw [if_pos rfl]
  by_cases h:1≤n
  ·rw [if_pos (decide_eq_true h),decide_eq_true h];rfl
  ·rw [if_neg (by rw [decide_eq_true_eq];exact h),decide_eq_false h];rfl
theorem right_ref12{V n:Int}{l:List UInt8}(hl:l.length=16):crawlwayref12_Right (mkE (mkA V l) n)=some (rightE V l n):=by
 unfold crawlwayref12_Right rightE
 show (crawlwayref10_Right (mkA V l)>>=fun t2=>if t2=true then (if decide (n≥1)=true then some (decide (n≤65535)) else some false) else some false)=_
 rw [right_ref hl,bindM_some]
 cases rightL V l with
 | false=>rfl
 | true =>
  rw [if_pos rfl]
  by_cases h:1≤n
  ·rw [if_pos (decide_eq_true h),decide_eq_true h];rfl
  ·rw [if_neg (by rw [decide_eq_true_eq];exact h),decide_eq_false h];rfl
theorem rightE_iff{V n:Int}{l:List UInt8}(h:rightE V l n=true):rightL V l=true∧∃ k:Nat,n=(k:Int)∧1≤k∧k≤65535:=by
 unfold rightE at h
 simp only [Bool.and_eq_true,decide_eq_true_eq] at h
 exact ⟨h.1,n.toNat,by omega,by omega,by omega⟩
def hostL(V:Int)(l:List UInt8)(k:Nat):List UInt8:=if V=4 then adrT V l++58::Lib.decDigits k else 91::(adrT V l++93::58::Lib.decDigits k)
theorem dig5(k:Nat)(h:k≤65535):(Lib.decDigits k).length≤20:=decDigits_len k (by omega)
theorem bs_app(l k:List UInt8):bs l++bs k=bs (l++k):=by apply mk_inj;rw [append_list,bs_list,bs_list,bs_list]
theorem fmtU_bs(k:Nat):fmtU (k:Int)=bs (Lib.decDigits k):=by apply mk_inj;rw [fmtU_list,bs_list]
theorem hostL_len{V:Int}{l:List UInt8}(hl:l.length=16)(k:Nat)(hk:k≤65535):(hostL V l k).length≤70:=by
 have h1:=adrT_len (V:=V) hl
 have h2:=dig5 k hk
 unfold hostL
 split<;>simp only [List.length_append,List.length_cons]<;>omega
theorem text_code12{V n:Int}{l:List UInt8}(hl:l.length=16):hostport_Text (mkE (mkA V l) n)=some (bs (if rightE V l n=true then hostL V l n.toNat else [])):=by
 unfold hostport_Text
 rw [right_code12 hl,bindM_some]
 cases hr:rightE V l n with
 | false=>rw [if_pos (show (!false)=true from rfl)];rfl
 | true =>
  obtain ⟨hrl,k,rfl,h1,h2⟩:=rightE_iff hr
  have ht:=adrT_len (V:=V) hl
  have hd:=dig5 k h2
  have b91:(⟨#[91]⟩:ByteArray)=bs [91]:=rfl
  have b9358:(⟨#[93,58]⟩:ByteArray)=bs [93,58]:=rfl
  have b58:(⟨#[58]⟩:ByteArray)=bs [58]:=rfl
  rw [if_neg (show ¬ (!true)=true by decide),if_pos rfl,Int.toNat_natCast]
  show (decimal_Text (wr .u64 (k:Int))>>=fun t4=>addr_Width (mkA V l)>>=fun t5=>if (decide (t5>32))=true then (addr_Text (mkA V l)>>=fun t7=>if (⟨#[91]⟩:ByteArray).size+t7.size≤140737488355328 then if ((⟨#[91]⟩:ByteArray)++t7).size+(⟨#[93,58]⟩:ByteArray).size≤140737488355328 then if (((⟨#[91]⟩:ByteArray)++t7)++(⟨#[93,58]⟩:ByteArray)).size+t4.size≤140737488355328 then some ((((⟨#[91]⟩:ByteArray)++t7)++(⟨#[93,58]⟩:ByteArray))++t4) else none else none else none) else (addr_Text (mkA V l)>>=fun t11=>if t11.size+(⟨#[58]⟩:ByteArray).size≤140737488355328 then if (t11++(⟨#[58]⟩:ByteArray)).size+t4.size≤140737488355328 then some ((t11++(⟨#[58]⟩:ByteArray))++t4) else none else none))=_
  rw [wr_u64 (by omega) (by omega),text_code k (by omega),bindM_some,width_code hl,bindM_some,addr_text hl,bindM_some,bindM_some,fmtU_bs,b91,b9358,b58]
  unfold hostL widthL
  rw [if_pos hrl]
  by_cases h4:V=4
  ·rw [if_pos h4,if_pos h4,if_neg (by decide),if_pos (by rw [bs_size,bs_size];simp only [List.length_cons,List.length_nil];omega),bs_app,if_pos (by rw [bs_size,bs_size,List.length_append];simp only [List.length_cons,List.length_nil];omega),bs_app,List.append_assoc];rfl
  ·rw [if_neg h4,if_neg h4,if_pos (by decide),if_pos (by rw [bs_size,bs_size];simp only [List.length_cons,List.length_nil];omega),bs_app,if_pos (by rw [bs_size,bs_size,List.length_append];simp only [List.length_cons,List.length_nil];omega),bs_app,if_pos (by rw [bs_size,bs_size,List.length_append,List.length_append];simp only [List.length_cons,List.length_nil];omega),bs_app,List.append_assoc,List.append_assoc];rfl
theorem text_ref12{V n:Int}{l:List UInt8}(hl:l.length=16):crawlwayref12_Text (mkE (mkA V l) n)=some (bs (if rightE V l n=true then hostL V l n.toNat else [])):=by
 unfold crawlwayref12_Text
 rw [right_ref12 hl,bindM_some]
 cases hr:rightE V l n with
 | false=>rw [if_pos (show (!false)=true from rfl)];rfl
 | true =>
  obtain ⟨hrl,k,rfl,h1,h2⟩:=rightE_iff hr
  have ht:=adrT_len (V:=V) hl
  have hd:=dig5 k h2
  have b91:(⟨#[91]⟩:ByteArray)=bs [91]:=rfl
  have b93:(⟨#[93]⟩:ByteArray)=bs [93]:=rfl
  have b58:(⟨#[58]⟩:ByteArray)=bs [58]:=rfl
  rw [if_neg (show ¬ (!true)=true by decide),if_pos rfl,Int.toNat_natCast]
  show (crawlwayref03_Text (wr .u64 (k:Int))>>=fun t4=>if (⟨#[58]⟩:ByteArray).size+t4.size≤140737488355328 then if (V==6)=true then (crawlwayref10_Text (mkA V l)>>=fun t7=>if (⟨#[91]⟩:ByteArray).size+t7.size≤140737488355328 then if ((⟨#[91]⟩:ByteArray)++t7).size+(⟨#[93]⟩:ByteArray).size≤140737488355328 then if (((⟨#[91]⟩:ByteArray)++t7)++(⟨#[93]⟩:ByteArray)).size+((⟨#[58]⟩:ByteArray)++t4).size≤140737488355328 then some ((((⟨#[91]⟩:ByteArray)++t7)++(⟨#[93]⟩:ByteArray))++((⟨#[58]⟩:ByteArray)++t4)) else none else none else none) else (crawlwayref10_Text (mkA V l)>>=fun t11=>if t11.size+((⟨#[58]⟩:ByteArray)++t4).size≤140737488355328 then some (t11++((⟨#[58]⟩:ByteArray)++t4)) else none) else none)=_
  rw [wr_u64 (by omega) (by omega),text_ref k (by omega),bindM_some,ref_text10 hl,bindM_some,bindM_some,fmtU_bs,b91,b93,b58,if_pos (by rw [bs_size,bs_size];simp only [List.length_cons,List.length_nil];omega),bs_app]
  unfold hostL
  rcases right_cases hrl with h6 | ⟨h4,_⟩
  ·subst h6
   rw [if_pos (show ((6:Int)==6)=true from rfl),if_neg (show ¬ (6:Int)=4 by decide),if_pos (by rw [bs_size,bs_size];simp only [List.length_cons,List.length_nil];omega),bs_app,if_pos (by rw [bs_size,bs_size,List.length_append];simp only [List.length_cons,List.length_nil];omega),bs_app,if_pos (by rw [bs_size,bs_size,List.length_append,List.length_append,List.length_append];simp only [List.length_cons,List.length_nil];omega),bs_app,List.append_assoc,List.append_assoc];rfl
  ·subst h4
   rw [if_neg (show ¬ ((4:Int)==6)=true by decide),if_pos rfl,if_pos (by rw [bs_app,bs_size,bs_size,List.length_append];simp only [List.length_cons,List.length_nil];omega),bs_app,bs_app];rfl
theorem dg_93:∀ n:Fin 16,Hex.dg n.1≠93:=by decide +kernel
theorem g1_93(n:Nat):∀ x∈Col.g1 n,x≠93:=by
 induction n using Nat.strongRecOn with
 | _ n ih =>
  intro x hx
  unfold Col.g1 Hex.grp at hx
  split at hx
  ·next h =>
   simp only [Hex.dig,List.mem_singleton] at hx
   subst hx
   exact dg_93 ⟨n,h⟩
  ·next h =>
   rw [append_list] at hx
   rcases List.mem_append.1 hx with hx | hx
   ·exact ih _ (show n/16<n by omega) x hx
   ·simp only [Hex.dig,List.mem_singleton] at hx
    subst hx
    exact dg_93 ⟨n%16,by omega⟩
theorem rowL_93:∀ (G:List Nat),∀ x∈Col.rowL G,x≠93
 | [],x,h=>by cases h
 | [n],x,h=>g1_93 n x h
 | n::m::r,x,h=>by
  rcases List.mem_append.1 h with h | h
  ·exact g1_93 n x h
  ·rcases List.mem_cons.1 h with rfl | h
   ·decide
   ·exact rowL_93 (m::r) x h
theorem textL_93(G:List Nat):∀ x∈Col.textL G,x≠93:=by
 intro x h
 unfold Col.textL at h
 split at h
 ·exact rowL_93 _ x h
 ·rcases List.mem_append.1 h with h | h
  ·exact rowL_93 _ x h
  ·rcases List.mem_cons.1 h with rfl | h
   ·decide
   ·rcases List.mem_cons.1 h with rfl | h
    ·decide
    ·exact rowL_93 _ x h
theorem cutL_at(r:List UInt8):∀ (p:List UInt8),(∀ x∈p,x≠93)→cutL (p++93::58::r)=some (p,r)
 | [],_=>rfl
 | c::p,h=>by
  have hc:=h c (List.mem_cons_self ..)
  have hB:isB (c::(p++93::58::r))=false:=by
   cases hb:isB (c::(p++93::58::r)) with
   | false=>rfl
   | true =>
    obtain ⟨r2,h2⟩:=(isB_iff _).1 hb
    exact absurd (List.cons.inj h2).1 hc
  show cutL (c::(p++93::58::r))=_
  rw [cutL,hB,if_neg Bool.false_ne_true,cutL_at r p fun x hx=>h x (List.mem_cons_of_mem _ hx)];rfl
theorem six_qText{m:List UInt8}(hm:m.length=4)(r:List UInt8):six (qText m++r)=false:=by
 match m,hm with
 | [a,b,c,d],_ =>
  show six ((Lib.decDigits a.toNat++46::(Lib.decDigits b.toNat++46::(Lib.decDigits c.toNat++46::Lib.decDigits d.toNat)))++r)=false
  cases hd:Lib.decDigits a.toNat with
  | nil=>exact absurd hd (decDigits_ne _)
  | cons x t =>
   have hx:=dig_iff.1 (List.all_eq_true.1 (decDigits_dig a.toNat) x (by rw [hd];exact List.mem_cons_self ..))
   show (some x==some 91)=false
   rw [beq_eq_false_iff_ne]
   intro e
   cases e
   have:(91:UInt8).toNat=91:=rfl
   omega
theorem endQ_right{V:Int}{l:List UInt8}(hl:l.length=16)(hr:rightL V l=true)(k:Nat)(h1:1≤k)(h2:k≤65535):endQ (adrT V l) (Lib.decDigits k)=(mkE (mkA V l) (k:Int),0):=by
 unfold endQ
 rw [parse_text10 hl hr,rdU_text,if_pos h2]
 show (if (0:Int)=0 then (if (0:Nat)=0 then (if k=0 then _ else _) else _) else _)=_
 rw [if_pos rfl,if_pos rfl,if_neg (by omega)]
theorem endP_text{V:Int}{l:List UInt8}(hl:l.length=16)(hr:rightL V l=true)(k:Nat)(h1:1≤k)(h2:k≤65535):endP (hostL V l k)=(mkE (mkA V l) (k:Int),0):=by
 have hq:=endQ_right hl hr k h1 h2
 unfold endP halL hostL
 rcases right_cases hr with h6 | ⟨h4,_⟩
 ·subst h6
  have hg:(Col.gr l).length=8:=by rw [Col.gr_len,hl]
  have he:adrT 6 l=Col.textL (Col.gr l):=by unfold adrT;rw [if_pos hr,if_neg (show ¬ (6:Int)=4 by decide)]
  rw [he] at hq ⊢
  rw [if_neg (show ¬ (6:Int)=4 by decide),if_pos (show six (91::(Col.textL (Col.gr l)++93::58::Lib.decDigits k))=true from rfl)]
  show (match (cutL (Col.textL (Col.gr l)++93::58::Lib.decDigits k)).bind fun q=>if hasC q.1=true then some q else none with | some (h,p)=>endQ h p | none=>(zE,5))=_
  rw [cutL_at _ _ (textL_93 _),Option.bind_some,textL_colon hg,if_pos rfl]
  exact hq
 ·subst h4
  have h4l:(l.take 4).length=4:=by rw [List.length_take];omega
  have he:adrT 4 l=qText (l.take 4):=by unfold adrT;rw [if_pos hr,if_pos rfl]
  rw [he] at hq ⊢
  rw [if_pos rfl,six_qText h4l,if_neg Bool.false_ne_true,f58_at _ _ (hasC_no (qText_nocolon h4l))]
  exact hq
end Go.Proofs.YtkkmmpofdcccmaaGreatDoor.Host
namespace Go.Proofs.YtkkmmpofdcccmaaGreatDoor.HexK
open E Go.RowKit
open Adr AdrT
theorem rightE_of{V:Int}{m:List UInt8}{k:Nat}(hr:rightL V m=true)(h1:1≤k)(h2:k≤65535):Host.rightE V m (k:Int)=true:=by
 unfold Host.rightE
 rw [hr,decide_eq_true (show (1:Int)≤(k:Int) by omega),decide_eq_true (show (k:Int)≤65535 by omega)];rfl
end Go.Proofs.YtkkmmpofdcccmaaGreatDoor.HexK
namespace Go.Proofs.YtkkmmpofdcccmaaGreatDoor
open E Go.RowKit _root_.Go.Proofs.Tryz
def script_Parse(x0:ByteArray):Option (S_api_Item×Int) :=
 if (0:Int)≤0∧0<((⟨#[32]⟩:ByteArray).size:Int) then lines_Parts x0 (bt (⟨#[32]⟩:ByteArray) 0)>>=fun t3=>if (0:Int)≤0∧0<(t3.length:Int) then script_kind (lget t3 0)>>=fun t10=>if ((({ zv8 with f_Kind:=t10 }).f_Kind)==1)=true then (if (wr .i64 ((t3.length:Int)-1) != 1)=true then (some (zv8,5)) else (if (0:Int)≤wr .i64 (0+1)∧wr .i64 (0+1)<(t3.length:Int) then script_unword (lget t3 (wr .i64 (0+1)))>>=fun t23=>if (t23.2 != 0)=true then (some (zv8,t23.2)) else (some ({ { zv8 with f_Kind:=t10 } with f_Bytes:=t23.1 },0)) else none)) else (if ((({ zv8 with f_Kind:=t10 }).f_Kind)==2)=true then (if (wr .i64 ((t3.length:Int)-1) != 1)=true then (some (zv8,5)) else (if (0:Int)≤wr .i64 (0+1)∧wr .i64 (0+1)<(t3.length:Int) then script_unword (lget t3 (wr .i64 (0+1)))>>=fun t42=>if (t42.2 != 0)=true then (some (zv8,t42.2)) else (some ({ { zv8 with f_Kind:=t10 } with f_Bytes:=t42.1 },0)) else none)) else (if ((({ zv8 with f_Kind:=t10 }).f_Kind)==3)=true then (if (wr .i64 ((t3.length:Int)-1) != 2)=true then (some (zv8,5)) else (if (0:Int)≤wr .i64 (0+1)∧wr .i64 (0+1)<(t3.length:Int) then script_unword (lget t3 (wr .i64 (0+1)))>>=fun t61=>if (t61.2 != 0)=true then (some (zv8,t61.2)) else (if (0:Int)≤wr .i64 (1+1)∧wr .i64 (1+1)<(t3.length:Int) then if (seq (lget t3 (wr .i64 (1+1))) (⟨#[33]⟩:ByteArray))=true then (some ({ { zv8 with f_Kind:=t10 } with f_Bytes:=t61.1 },0)) else (script_unword (lget t3 (wr .i64 (1+1)))>>=fun t76=>if (t76.2 != 0)=true then (some (zv8,t76.2)) else (some ({ { { { zv8 with f_Kind:=t10 } with f_Bytes:=t61.1 } with f_Ok:=true } with f_Result:=t76.1 },0))) else none) else none)) else (if ((({ zv8 with f_Kind:=t10 }).f_Kind)==4)=true then (if (wr .i64 ((t3.length:Int)-1) != 3)=true then (some (zv8,5)) else (if (0:Int)≤wr .i64 (0+1)∧wr .i64 (0+1)<(t3.length:Int) then hostport_Parse (lget t3 (wr .i64 (0+1)))>>=fun t97=>if (t97.2 != 0)=true then (some (zv8,t97.2)) else (if (0:Int)≤wr .i64 (1+1)∧wr .i64 (1+1)<(t3.length:Int) then script_unword (lget t3 (wr .i64 (1+1)))>>=fun t106=>if (t106.2 != 0)=true then (some (zv8,t106.2)) else (if (0:Int)≤wr .i64 (2+1)∧wr .i64 (2+1)<(t3.length:Int) then if (seq (lget t3 (wr .i64 (2+1))) (⟨#[33]⟩:ByteArray))=true then (some ({ { { zv8 with f_Kind:=t10 } with f_From:=t97.1 } with f_Bytes:=t106.1 },0)) else (script_unword (lget t3 (wr .i64 (2+1)))>>=fun t121=>if (t121.2 != 0)=true then (some (zv8,t121.2)) else (some ({ { { { { zv8 with f_Kind:=t10 } with f_From:=t97.1 } with f_Bytes:=t106.1 } with f_Ok:=true } with f_Result:=t121.1 },0))) else none) else none) else none)) else (if ((({ zv8 with f_Kind:=t10 }).f_Kind)==5)=true then (if (wr .i64 ((t3.length:Int)-1) != 4)=true then (some (zv8,5)) else (if (0:Int)≤wr .i64 (0+1)∧wr .i64 (0+1)<(t3.length:Int) then keys_ParseHex (lget t3 (wr .i64 (0+1)))>>=fun t144=>if (t144.2 != 0)=true then (some (zv8,t144.2)) else (if (0:Int)≤wr .i64 (1+1)∧wr .i64 (1+1)<(t3.length:Int) then decimal_Read (lget t3 (wr .i64 (1+1))) 4294967295>>=fun t153=>if (t153.2 != 0)=true then (some (zv8,t153.2)) else (if (0:Int)≤wr .i64 (2+1)∧wr .i64 (2+1)<(t3.length:Int) then decimal_Read (lget t3 (wr .i64 (2+1))) 4294967295>>=fun t162=>if (t162.2 != 0)=true then (some (zv8,t162.2)) else (if (0:Int)≤wr .i64 (3+1)∧wr .i64 (3+1)<(t3.length:Int) then decimal_Read (lget t3 (wr .i64 (3+1))) 18446744073709551615>>=fun t171=>if (t171.2 != 0)=true then (some (zv8,t171.2)) else (some ({ { { { { zv8 with f_Kind:=t10 } with f_Key:=t144.1 } with f_Local:=wr .u32 t153.1 } with f_Remote:=wr .u32 t162.1 } with f_Next:=t171.1 },0)) else none) else none) else none) else none)) else (if ((({ zv8 with f_Kind:=t10 }).f_Kind)==6)=true then (if (wr .i64 ((t3.length:Int)-1) != 1)=true then (some (zv8,5)) else (if (0:Int)≤wr .i64 (0+1)∧wr .i64 (0+1)<(t3.length:Int) then decimal_Read (lget t3 (wr .i64 (0+1))) 4294967295>>=fun t187=>if (t187.2 != 0)=true then (some (zv8,t187.2)) else (some ({ { zv8 with f_Kind:=t10 } with f_Local:=wr .u32 t187.1 },0)) else none)) else (some (zv8,12))))))) else none else none
set_option maxRecDepth 20000 in
set_option maxHeartbeats 3200000 in
theorem script_Parse_ok{x0:ByteArray}{r:S_api_Item×Int}(hF:script_Parse x0=some r):∀ {w0 w:World} {G_:List Ent} {Z_:List Nat} {s_:World} (hw_:Wd w0 (frzE w0 Z_ s_::G_) w) (hg_bytealg_MaxLen:GV_bytealg_MaxLen w0) (hg_strconv_ErrRange:GV_strconv_ErrRange w0) (hg_strconv_ErrSyntax:GV_strconv_ErrSyntax w0) (hg_strconv_uint64pow10:GV_strconv_uint64pow10 w0),
    Calls Tryz.prog 25 #[.string x0] w (fun e w'=>∃ (Z':List Nat) (s':World) (z:G_api_Item),Mono (KZ w0 Z_) s_ (KZ w0 Z') s'∧e=.returned (.tuple #[.agg (Cd.cs c_api_Item (z,r.1)).toArray,.int .i64 r.2])∧(NK_api_Item (KZ w0 Z') s' (z,r.1))∧Wd w0 (frzE w0 Z' s'::G_) w'):=by
 intro w0 w G_ Z_ s_   hw_ hg_bytealg_MaxLen hg_strconv_ErrRange hg_strconv_ErrSyntax hg_strconv_uint64pow10
 unfold script_Parse at hF
 refine ce (l:=[.string x0]) func25 rfl rfl ?_
 refine at_enterF hw_ ?_
 clear hw_
 obtain ⟨Z0_,hZ0_⟩:∃ Z0_,Z0_=Z_:=⟨_,rfl⟩
 obtain ⟨s0_,hs0_⟩:∃ s0_,s0_=s_:=⟨_,rfl⟩
 have hM_:Mono (KZ w0 Z0_) s0_ (KZ w0 Z_) s_:=by rw [hZ0_,hs0_];exact Mono.refl _ _
 rw [←hZ0_,←hs0_]
 rw [show frzE w0 Z0_ s0_=frzE w0 Z_ s_ from by rw [hZ0_,hs0_]]
 refine sr ?_
 refine al (cs:=Cd.cs c_api_Item zv10) zeroValue33 ?_
 intro b1
 refine aa (ns (am ?_))
 obtain ⟨h2,hF⟩:=gd hF
 refine aw (r_index_str underlying9 rfl rfl h2) ?_
 obtain ⟨t3,ht3,hF⟩:=bM hF
 refine at_callO (c:=cStr) (e:=9) (ys:=t3) (V:=fun p cap=>.slice p t3.length cap) func48 rfl (by kernel_rfl) rfl rfl (fun w hw=>lines_Parts_ok _ _ _ ht3 w) ?_
 intro p4 c5
 refine aa (ns (am ?_))
 obtain ⟨h6,hF⟩:=gd hF
 refine at_pure (φ:=∃ b o,p4=some ⟨b,o,none⟩) (fun _ hw=>row_ptr (hw.own .z).row h6) ?_
 rintro ⟨b8,o9,hp7⟩
 refine aw (r_idx underlying38 sizeOf9 rfl rfl h6 hp7) ?_
 refine aw (r_load_cell isAgg9 rfl (fun _ hw=>row_cell0 (W:=fun w1=>w1=_) (fun w1 h=>by subst h;exact Below.refl _ _) (hw.own .z).row h6 hp7 rfl _ rfl)) ?_
 obtain ⟨t10,ht10,hF⟩:=bM hF
 refine cB func49 rfl (fun w hw=>script_kind_ok _ _ ht10 w (hg_bytealg_MaxLen.on hw.below) (hg_strconv_ErrRange.on hw.below) (hg_strconv_ErrSyntax.on hw.below) (hg_strconv_uint64pow10.on hw.below)) ?_
 refine aw (r_build_struct (zs:=Cd.cs c_api_Item zv10) (cs:=Cd.cs c_api_Item (zv9,{ zv8 with f_Kind:=t10 })) underlying33 zeroValue33 rfl (places_api_Item_33) rfl (fill_step (c:=(cInt .i64)) (z:=t10) rfl (c_api_Item_f_Kind zv9 zv8) rfl rfl)) ?_
 refine al (cs:=Cd.cs c_api_Item zv10) zeroValue33 ?_
 intro b11
 refine at_store (c:=c_api_Item) (z:=(zv9,{ zv8 with f_Kind:=t10 })) .z lw sizeOf33 rfl rfl rfl ?_
 refine nwx [5,4,2] ?_
 refine fa 0 underlying33 rfl sizeOf3 ?_
 refine aw (r_load_cell isAgg3 rfl (lens_cell0 (c:=(cInt .i64)) (y:=({ zv8 with f_Kind:=t10 }).f_Kind) .z (c_api_Item_f_Kind zv9 ({ zv8 with f_Kind:=t10 })) rfl)) ?_
 obtain ⟨h12,hF⟩|⟨h12,hF⟩:=oi hF
 ·skip
  refine script_shapeOf_in0 rfl rfl h12 ?_
  intro b13
  refine am ?_
  refine aw xe (aw xe ?_)
  refine al (cs:=zl20) zeroValue98 ?_
  intro b14
  refine sa 2 ((zl17 b13)) .z rfl rfl sizeOf98 rfl rfl rfl ?_
  refine aa (nwq [7,6,5,4,2] ?_)
  refine qs ?_
  refine qb ?_
  refine sr (am ?_)
  refine aw (r_not rfl) ?_
  refine aa (nwq [25,6,5,4,2] ?_)
  refine cf rfl ?_
  refine sr (am ?_)
  refine aw (r_len_sl underlying38 rfl) ?_
  refine aw (r_isub rfl rfl) ?_
  refine fa 1 underlying98 rfl sizeOf96 ?_
  refine aw (r_load_cell isAgg96 rfl (fun w1 hw=>cells_get (hw.ok (Upd.mem .z)) 1 _ rfl)) ?_
  refine aw (r_len_sl underlying96 rfl) ?_
  refine aw xn (aa (nwq [29,6,5,4,2] ?_))
  obtain ⟨h15,hF⟩|⟨h15,hF⟩:=oi hF
  ·refine ct h15 ?_
   refine sr ?_
   refine aw (r_build_struct (zs:=Cd.cs c_api_Item zv10) (cs:=Cd.cs c_api_Item zv10) underlying33 zeroValue33 rfl (places_api_Item_33) rfl rfl) ?_
   refine at_store (c:=c_api_Item) (z:=zv10) (.s (.s (.s (.s .z)))) lw sizeOf33 rfl rfl rfl ?_
   refine aa (qn (dz (dz (dz (dz (wq [3,2] ?_))))))
   refine tn (qt ?_)
   refine br (tr ?_)
   have hN16:NK_api_Item (KZ w0 Z_) s_ zv10:=⟨RowK.nil ..,RowK.nil ..⟩
   have K:=os hF
   subst K
   exact at_res2 rfl (res_cell (c:=c_api_Item) (y:=zv10) rfl .z lw isAgg33 sizeOf33 (.inl rfl)) (res_tmp rfl) (fun w1 hw=>⟨Z_,s_,zv9,hM_,rfl,hN16,hw.pop⟩)
  refine cf h15 ?_
  refine at_skip ?_
  refine bm ?_
  refine qs (sr (fa 1 underlying98 rfl sizeOf96 ?_))
  refine aw (r_load_cell isAgg96 rfl (fun w1 hw=>cells_get (hw.ok (Upd.mem .z)) 1 _ rfl)) ?_
  refine aw (r_len_sl underlying96 rfl) ?_
  refine am (qn (dz (wq [41,40,39,5,4,2] ?_)))
  refine tn ?_
  refine qb ?_
  refine wq [41,40,39,5,4,2] ?_
  refine at_loop ?_
  refine at_round ?_
  refine sr (aw xl ?_)
  refine at_fix (g:=42) rfl (show (decide (0<1))=true from by decide) ?_
  refine nwq [42,41,40,39,5,4,2] ?_
  refine qs ?_
  refine ct rfl ?_
  refine sn (qs ?_)
  refine qb ?_
  refine sr (am ?_)
  refine aw (r_idx underlying96 sizeOf104 rfl rfl (by decide) rfl) ?_
  refine aw (r_load_agg (l:=zl12) isAgg104 sizeOf104 rfl rfl (fun w1 hw=>cells_mid (pre:=[]) (suf:=[]) (hw.ok (Upd.mem .z)) rfl rfl)) ?_
  refine al (cs:=zl21) zeroValue104 ?_
  intro b17
  refine aa ?_
  refine sa 3 (zl12) .z rfl rfl sizeOf104 rfl rfl rfl ?_
  refine nt (qs (wq [41,40,39,9,8,5,4,2] ?_))
  obtain ⟨h18,hF⟩:=gd hF
  refine at_pure (φ:=∃ b o,p4=some ⟨b,o,none⟩) (fun _ hw=>row_ptr (hw.own (.s (.s (.s .z)))).row h18) ?_
  rintro ⟨b20,o21,hp19⟩
  refine at_invT [.q 46 (fun g22=>.pointer (some ⟨b17,0+1,none⟩)) [] 0 0,.q 47 (fun g22=>.func (.func 127) #[] #[]) [0] 0 0,.q 48 (fun g22=>.slice p4 t3.length c5) [] 0 0,.q 49 (fun g22=>.int .i64 0) [] 0 0,.q 50 (fun g22=>.int .i64 (wr .i64 (0+1))) [3] 0 0,.q 51 (fun g22=>.pointer (some ⟨b20,o21+Int.toNat (wr .i64 (0+1))*1,none⟩)) [2,4] 0 0,.q 52 (fun g22=>.string (lget t3 (wr .i64 (0+1)))) [5] 0 0] (fun g22 s=>match s with | _=>(Wd w0 (cellsE b17 zl12 104::cellsE b13 zl12 104::cellsE b11 (Cd.cs c_api_Item (zv9,{ zv8 with f_Kind:=t10 })) 33::rowE cStr 9 p4 c5 t3::cellsE b1 (Cd.cs c_api_Item zv10) 33::frzE w0 Z_ s_::G_))) 0 7 (by kernel_rfl) (by kernel_rfl) (by kernel_rfl) (by kernel_rfl) (by kernel_rfl) (by kernel_rfl) ⟨fun _ _ _=>rfl,fun _ _ _=>rfl,fun _ _ _=>rfl,fun _ _ _=>rfl,fun _ _ _=>rfl,fun _ _ _=>rfl,fun _ _ _=>rfl,trivial⟩ (by kernel_rfl) (fun w_ h=>⟨fun _=>g3 0 none 0 none w_,h.drew⟩) ⟨?_,?_,?_,?_,?_,?_,?_,trivial⟩ ?_
  ·intro Lx g22 s K hl hh k
   show At 60 ((2,_)::(4,_)::(5,_)::(8,_)::(9,_)::(39,_)::(40,_)::(41,_)::Lx) _ _
   refine fa 1 underlying104 rfl sizeOf101 ?_
   exact at_nil k
  ·intro Lx g22 s K hl hh k
   show At 60 ((46,_)::(2,_)::(4,_)::(5,_)::(8,_)::(9,_)::(39,_)::(40,_)::(41,_)::Lx) _ _
   obtain rfl:s=0:=by omega
   refine aw (r_load_cell isAgg101 rfl (fun w1 hw=>cells_get (hw.ok (Upd.mem .z)) 1 _ rfl)) ?_
   exact at_nil k
  ·intro Lx g22 s K hl hh k
   show At 60 ((2,_)::(4,_)::(5,_)::(8,_)::(9,_)::(39,_)::(40,_)::(41,_)::Lx) _ _
   refine am ?_
   exact at_nil k
  ·intro Lx g22 s K hl hh k
   show At 60 ((2,_)::(4,_)::(5,_)::(8,_)::(9,_)::(39,_)::(40,_)::(41,_)::Lx) _ _
   refine am ?_
   exact at_nil k
  ·intro Lx g22 s K hl hh k
   show At 60 ((49,_)::(2,_)::(4,_)::(5,_)::(8,_)::(9,_)::(39,_)::(40,_)::(41,_)::Lx) _ _
   refine aw xa ?_
   exact at_nil k
  ·intro Lx g22 s K hl hh k
   show At 60 ((48,_)::(50,_)::(2,_)::(4,_)::(5,_)::(8,_)::(9,_)::(39,_)::(40,_)::(41,_)::Lx) _ _
   refine aw (r_idx underlying38 sizeOf9 rfl rfl h18 hp19) ?_
   exact at_nil k
  ·intro Lx g22 s K hl hh k
   show At 60 ((51,_)::(2,_)::(4,_)::(5,_)::(8,_)::(9,_)::(39,_)::(40,_)::(41,_)::Lx) _ _
   obtain rfl:s=0:=by omega
   refine aw (r_load_cell isAgg9 rfl (fun _ hw=>row_cell0 (W:=fun w1=>w1=_) (fun w1 h=>by subst h;exact Below.refl _ _) (hw.own (.s (.s (.s .z)))).row h18 hp19 rfl _ rfl)) ?_
   exact at_nil k
  intro g22
  show At 60 [(46,_),(47,_),(48,_),(49,_),(50,_),(51,_),(52,_),(2,_),(4,_),(5,_),(8,_),(9,_),(39,_),(40,_),(41,_)] _ _
  refine at_callee rfl ?_
  refine at_callI func127 rfl (by kernel_rfl) rfl rfl rfl rfl ?_
  refine dz (sr (aa (ns (am (am ?_)))))
  obtain ⟨t23,ht23,hF⟩:=bM hF
  refine at_callO (c:=(cInt .u8)) (e:=5) (ys:=t23.1) (V:=fun p cap=>.tuple #[.slice p t23.1.length cap,.int .i64 t23.2]) func128 rfl (by kernel_rfl) rfl rfl (fun w hw=>script_unword_ok _ _ ht23 w) ?_
  intro p24 c25
  refine am ?_
  refine aw xe (aw xe ?_)
  refine aw (r_nilCheck rfl) ?_
  refine fa 1 underlying33 rfl sizeOf22 ?_
  refine at_store (c:=cSv Int) (z:=((p24,c25),t23.1)) (.s (.s .z)) (c_api_Item_f_Bytes_sv zv9 ({ zv8 with f_Kind:=t10 })) sizeOf22 rfl rfl rfl ?_
  refine aa (ns (am (aa (nwq [4] ?_))))
  refine qt ?_
  refine at_retI1 rfl rfl ?_
  refine aa (ns (am (aw xn (nwq [55,41,40,39,10,5,4,2] ?_))))
  obtain ⟨h26,hF⟩|⟨h26,hF⟩:=oi hF
  ·refine ct h26 ?_
   refine sr ?_
   refine aw (r_build_struct (zs:=Cd.cs c_api_Item zv10) (cs:=Cd.cs c_api_Item zv10) underlying33 zeroValue33 rfl (places_api_Item_33) rfl rfl) ?_
   refine am ?_
   refine at_store (c:=c_api_Item) (z:=zv10) (.s (.s (.s (.s .z)))) lw sizeOf33 rfl rfl rfl ?_
   refine aa (qn (dz (dz (dz (dz (wq [3,2] ?_))))))
   refine tn (qt ?_)
   refine br (tr (tr (br (tr ?_))))
   have hN27:NK_api_Item (KZ w0 Z_) s_ zv10:=⟨RowK.nil ..,RowK.nil ..⟩
   have K:=os hF
   subst K
   exact at_res2 rfl (res_cell (c:=c_api_Item) (y:=zv10) rfl .z lw isAgg33 sizeOf33 (.inl rfl)) (res_tmp rfl) (fun w1 hw=>⟨Z_,s_,zv9,hM_,rfl,hN27,hw.pop⟩)
  refine cf h26 ?_
  refine at_skip ?_
  refine bm ?_
  refine qr (aw xa ?_)
  refine at_ov (t:=58) rfl (show Value.int .i64 (wr .i64 (0+1))=.int .i64 1 from by rfl) ?_
  refine am (nt (wq [41,40,39,5,4,2] ?_))
  refine at_round ?_
  refine sr (aw xl ?_)
  refine at_fix (g:=42) rfl (show (decide (1<1))=false from by decide) ?_
  refine nwq [42,41,40,39,5,4,2] ?_
  refine qs ?_
  refine cf rfl ?_
  refine at_exit ?_
  refine te (te ?_)
  refine at_blk_same ?_
  refine at_drop (H:=_) (.s .z) ?_
  refine at_drop (H:=_) (.s (.s .z)) ?_
  refine tn (sr ?_)
  refine aw (r_load_aggc (c:=c_api_Item) (z:=(((p24,c25),zv6),{ { zv8 with f_Kind:=t10 } with f_Bytes:=t23.1 })) isAgg33 sizeOf33 rfl (lens_cell (.s .z) lw)) ?_
  refine at_store (c:=c_api_Item) (z:=(((p24,c25),zv6),{ { zv8 with f_Kind:=t10 } with f_Bytes:=t23.1 })) (.s (.s .z)) lw sizeOf33 rfl rfl rfl ?_
  refine aa (qn ?_)
  refine at_drop (H:=_) (.s .z) ?_
  refine wq [3,2] ?_
  refine tn (qt ?_)
  refine at_freeze (.s .z) ?_
  intro Z_ s_ hm29 hk30
  replace hM_:=Mono.mono hM_ hm29
  have hN28:NK_api_Item (KZ w0 Z_) s_ (((p24,c25),zv6),{ { zv8 with f_Kind:=t10 } with f_Bytes:=t23.1 }):=⟨hk30,RowK.nil ..⟩
  have K:=os hF
  subst K
  exact at_res2 rfl (res_cell (c:=c_api_Item) (y:=(((p24,c25),zv6),{ { zv8 with f_Kind:=t10 } with f_Bytes:=t23.1 })) rfl .z lw isAgg33 sizeOf33 (.inl rfl)) (res_tmp rfl) (fun w1 hw=>⟨Z_,s_,((p24,c25),zv6),hM_,rfl,hN28,hw.pop⟩)
 skip
 obtain ⟨h31,hF⟩|⟨h31,hF⟩:=oi hF
 ·skip
  refine script_shapeOf_in1 rfl rfl h12 h31 ?_
  intro b32
  refine am ?_
  refine aw xe (aw xe ?_)
  refine al (cs:=zl20) zeroValue98 ?_
  intro b33
  refine sa 2 ((zl16 b32)) .z rfl rfl sizeOf98 rfl rfl rfl ?_
  refine aa (nwq [7,6,5,4,2] ?_)
  refine qs ?_
  refine qb ?_
  refine sr (am ?_)
  refine aw (r_not rfl) ?_
  refine aa (nwq [25,6,5,4,2] ?_)
  refine cf rfl ?_
  refine sr (am ?_)
  refine aw (r_len_sl underlying38 rfl) ?_
  refine aw (r_isub rfl rfl) ?_
  refine fa 1 underlying98 rfl sizeOf96 ?_
  refine aw (r_load_cell isAgg96 rfl (fun w1 hw=>cells_get (hw.ok (Upd.mem .z)) 1 _ rfl)) ?_
  refine aw (r_len_sl underlying96 rfl) ?_
  refine aw xn (aa (nwq [29,6,5,4,2] ?_))
  obtain ⟨h34,hF⟩|⟨h34,hF⟩:=oi hF
  ·refine ct h34 ?_
   refine sr ?_
   refine aw (r_build_struct (zs:=Cd.cs c_api_Item zv10) (cs:=Cd.cs c_api_Item zv10) underlying33 zeroValue33 rfl (places_api_Item_33) rfl rfl) ?_
   refine at_store (c:=c_api_Item) (z:=zv10) (.s (.s (.s (.s .z)))) lw sizeOf33 rfl rfl rfl ?_
   refine aa (qn (dz (dz (dz (dz (wq [3,2] ?_))))))
   refine tn (qt ?_)
   refine br (tr ?_)
   have hN35:NK_api_Item (KZ w0 Z_) s_ zv10:=⟨RowK.nil ..,RowK.nil ..⟩
   have K:=os hF
   subst K
   exact at_res2 rfl (res_cell (c:=c_api_Item) (y:=zv10) rfl .z lw isAgg33 sizeOf33 (.inl rfl)) (res_tmp rfl) (fun w1 hw=>⟨Z_,s_,zv9,hM_,rfl,hN35,hw.pop⟩)
  refine cf h34 ?_
  refine at_skip ?_
  refine bm ?_
  refine qs (sr (fa 1 underlying98 rfl sizeOf96 ?_))
  refine aw (r_load_cell isAgg96 rfl (fun w1 hw=>cells_get (hw.ok (Upd.mem .z)) 1 _ rfl)) ?_
  refine aw (r_len_sl underlying96 rfl) ?_
  refine am (qn (dz (wq [41,40,39,5,4,2] ?_)))
  refine tn ?_
  refine qb ?_
  refine wq [41,40,39,5,4,2] ?_
  refine at_loop ?_
  refine at_round ?_
  refine sr (aw xl ?_)
  refine at_fix (g:=42) rfl (show (decide (0<1))=true from by decide) ?_
  refine nwq [42,41,40,39,5,4,2] ?_
  refine qs ?_
  refine ct rfl ?_
  refine sn (qs ?_)
  refine qb ?_
  refine sr (am ?_)
  refine aw (r_idx underlying96 sizeOf104 rfl rfl (by decide) rfl) ?_
  refine aw (r_load_agg (l:=zl12) isAgg104 sizeOf104 rfl rfl (fun w1 hw=>cells_mid (pre:=[]) (suf:=[]) (hw.ok (Upd.mem .z)) rfl rfl)) ?_
  refine al (cs:=zl21) zeroValue104 ?_
  intro b36
  refine aa ?_
  refine sa 3 (zl12) .z rfl rfl sizeOf104 rfl rfl rfl ?_
  refine nt (qs (wq [41,40,39,9,8,5,4,2] ?_))
  obtain ⟨h37,hF⟩:=gd hF
  refine at_pure (φ:=∃ b o,p4=some ⟨b,o,none⟩) (fun _ hw=>row_ptr (hw.own (.s (.s (.s .z)))).row h37) ?_
  rintro ⟨b39,o40,hp38⟩
  refine at_invT [.q 46 (fun g41=>.pointer (some ⟨b36,0+1,none⟩)) [] 0 0,.q 47 (fun g41=>.func (.func 127) #[] #[]) [0] 0 0,.q 48 (fun g41=>.slice p4 t3.length c5) [] 0 0,.q 49 (fun g41=>.int .i64 0) [] 0 0,.q 50 (fun g41=>.int .i64 (wr .i64 (0+1))) [3] 0 0,.q 51 (fun g41=>.pointer (some ⟨b39,o40+Int.toNat (wr .i64 (0+1))*1,none⟩)) [2,4] 0 0,.q 52 (fun g41=>.string (lget t3 (wr .i64 (0+1)))) [5] 0 0] (fun g41 s=>match s with | _=>(Wd w0 (cellsE b36 zl12 104::cellsE b32 zl12 104::cellsE b11 (Cd.cs c_api_Item (zv9,{ zv8 with f_Kind:=t10 })) 33::rowE cStr 9 p4 c5 t3::cellsE b1 (Cd.cs c_api_Item zv10) 33::frzE w0 Z_ s_::G_))) 0 7 (by kernel_rfl) (by kernel_rfl) (by kernel_rfl) (by kernel_rfl) (by kernel_rfl) (by kernel_rfl) ⟨fun _ _ _=>rfl,fun _ _ _=>rfl,fun _ _ _=>rfl,fun _ _ _=>rfl,fun _ _ _=>rfl,fun _ _ _=>rfl,fun _ _ _=>rfl,trivial⟩ (by kernel_rfl) (fun w_ h=>⟨fun _=>g3 0 none 0 none w_,h.drew⟩) ⟨?_,?_,?_,?_,?_,?_,?_,trivial⟩ ?_
  ·intro Lx g41 s K hl hh k
   show At 60 ((2,_)::(4,_)::(5,_)::(8,_)::(9,_)::(39,_)::(40,_)::(41,_)::Lx) _ _
   refine fa 1 underlying104 rfl sizeOf101 ?_
   exact at_nil k
  ·intro Lx g41 s K hl hh k
   show At 60 ((46,_)::(2,_)::(4,_)::(5,_)::(8,_)::(9,_)::(39,_)::(40,_)::(41,_)::Lx) _ _
   obtain rfl:s=0:=by omega
   refine aw (r_load_cell isAgg101 rfl (fun w1 hw=>cells_get (hw.ok (Upd.mem .z)) 1 _ rfl)) ?_
   exact at_nil k
  ·intro Lx g41 s K hl hh k
   show At 60 ((2,_)::(4,_)::(5,_)::(8,_)::(9,_)::(39,_)::(40,_)::(41,_)::Lx) _ _
   refine am ?_
   exact at_nil k
  ·intro Lx g41 s K hl hh k
   show At 60 ((2,_)::(4,_)::(5,_)::(8,_)::(9,_)::(39,_)::(40,_)::(41,_)::Lx) _ _
   refine am ?_
   exact at_nil k
  ·intro Lx g41 s K hl hh k
   show At 60 ((49,_)::(2,_)::(4,_)::(5,_)::(8,_)::(9,_)::(39,_)::(40,_)::(41,_)::Lx) _ _
   refine aw xa ?_
   exact at_nil k
  ·intro Lx g41 s K hl hh k
   show At 60 ((48,_)::(50,_)::(2,_)::(4,_)::(5,_)::(8,_)::(9,_)::(39,_)::(40,_)::(41,_)::Lx) _ _
   refine aw (r_idx underlying38 sizeOf9 rfl rfl h37 hp38) ?_
   exact at_nil k
  ·intro Lx g41 s K hl hh k
   show At 60 ((51,_)::(2,_)::(4,_)::(5,_)::(8,_)::(9,_)::(39,_)::(40,_)::(41,_)::Lx) _ _
   obtain rfl:s=0:=by omega
   refine aw (r_load_cell isAgg9 rfl (fun _ hw=>row_cell0 (W:=fun w1=>w1=_) (fun w1 h=>by subst h;exact Below.refl _ _) (hw.own (.s (.s (.s .z)))).row h37 hp38 rfl _ rfl)) ?_
   exact at_nil k
  intro g41
  show At 60 [(46,_),(47,_),(48,_),(49,_),(50,_),(51,_),(52,_),(2,_),(4,_),(5,_),(8,_),(9,_),(39,_),(40,_),(41,_)] _ _
  refine at_callee rfl ?_
  refine at_callI func127 rfl (by kernel_rfl) rfl rfl rfl rfl ?_
  refine dz (sr (aa (ns (am (am ?_)))))
  obtain ⟨t42,ht42,hF⟩:=bM hF
  refine at_callO (c:=(cInt .u8)) (e:=5) (ys:=t42.1) (V:=fun p cap=>.tuple #[.slice p t42.1.length cap,.int .i64 t42.2]) func128 rfl (by kernel_rfl) rfl rfl (fun w hw=>script_unword_ok _ _ ht42 w) ?_
  intro p43 c44
  refine am ?_
  refine aw xe (aw xe ?_)
  refine aw (r_nilCheck rfl) ?_
  refine fa 1 underlying33 rfl sizeOf22 ?_
  refine at_store (c:=cSv Int) (z:=((p43,c44),t42.1)) (.s (.s .z)) (c_api_Item_f_Bytes_sv zv9 ({ zv8 with f_Kind:=t10 })) sizeOf22 rfl rfl rfl ?_
  refine aa (ns (am (aa (nwq [4] ?_))))
  refine qt ?_
  refine at_retI1 rfl rfl ?_
  refine aa (ns (am (aw xn (nwq [55,41,40,39,10,5,4,2] ?_))))
  obtain ⟨h45,hF⟩|⟨h45,hF⟩:=oi hF
  ·refine ct h45 ?_
   refine sr ?_
   refine aw (r_build_struct (zs:=Cd.cs c_api_Item zv10) (cs:=Cd.cs c_api_Item zv10) underlying33 zeroValue33 rfl (places_api_Item_33) rfl rfl) ?_
   refine am ?_
   refine at_store (c:=c_api_Item) (z:=zv10) (.s (.s (.s (.s .z)))) lw sizeOf33 rfl rfl rfl ?_
   refine aa (qn (dz (dz (dz (dz (wq [3,2] ?_))))))
   refine tn (qt ?_)
   refine br (tr (tr (br (tr ?_))))
   have hN46:NK_api_Item (KZ w0 Z_) s_ zv10:=⟨RowK.nil ..,RowK.nil ..⟩
   have K:=os hF
   subst K
   exact at_res2 rfl (res_cell (c:=c_api_Item) (y:=zv10) rfl .z lw isAgg33 sizeOf33 (.inl rfl)) (res_tmp rfl) (fun w1 hw=>⟨Z_,s_,zv9,hM_,rfl,hN46,hw.pop⟩)
  refine cf h45 ?_
  refine at_skip ?_
  refine bm ?_
  refine qr (aw xa ?_)
  refine at_ov (t:=58) rfl (show Value.int .i64 (wr .i64 (0+1))=.int .i64 1 from by rfl) ?_
  refine am (nt (wq [41,40,39,5,4,2] ?_))
  refine at_round ?_
  refine sr (aw xl ?_)
  refine at_fix (g:=42) rfl (show (decide (1<1))=false from by decide) ?_
  refine nwq [42,41,40,39,5,4,2] ?_
  refine qs ?_
  refine cf rfl ?_
  refine at_exit ?_
  refine te (te ?_)
  refine at_blk_same ?_
  refine at_drop (H:=_) (.s .z) ?_
  refine at_drop (H:=_) (.s (.s .z)) ?_
  refine tn (sr ?_)
  refine aw (r_load_aggc (c:=c_api_Item) (z:=(((p43,c44),zv6),{ { zv8 with f_Kind:=t10 } with f_Bytes:=t42.1 })) isAgg33 sizeOf33 rfl (lens_cell (.s .z) lw)) ?_
  refine at_store (c:=c_api_Item) (z:=(((p43,c44),zv6),{ { zv8 with f_Kind:=t10 } with f_Bytes:=t42.1 })) (.s (.s .z)) lw sizeOf33 rfl rfl rfl ?_
  refine aa (qn ?_)
  refine at_drop (H:=_) (.s .z) ?_
  refine wq [3,2] ?_
  refine tn (qt ?_)
  refine at_freeze (.s .z) ?_
  intro Z_ s_ hm48 hk49
  replace hM_:=Mono.mono hM_ hm48
  have hN47:NK_api_Item (KZ w0 Z_) s_ (((p43,c44),zv6),{ { zv8 with f_Kind:=t10 } with f_Bytes:=t42.1 }):=⟨hk49,RowK.nil ..⟩
  have K:=os hF
  subst K
  exact at_res2 rfl (res_cell (c:=c_api_Item) (y:=(((p43,c44),zv6),{ { zv8 with f_Kind:=t10 } with f_Bytes:=t42.1 })) rfl .z lw isAgg33 sizeOf33 (.inl rfl)) (res_tmp rfl) (fun w1 hw=>⟨Z_,s_,((p43,c44),zv6),hM_,rfl,hN47,hw.pop⟩)
 skip
 obtain ⟨h50,hF⟩|⟨h50,hF⟩:=oi hF
 ·skip
  refine script_shapeOf_in2 rfl rfl h12 h31 h50 ?_
  intro b51
  refine am ?_
  refine aw xe (aw xe ?_)
  refine al (cs:=zl20) zeroValue98 ?_
  intro b52
  refine sa 2 ((zl18 b51)) .z rfl rfl sizeOf98 rfl rfl rfl ?_
  refine aa (nwq [7,6,5,4,2] ?_)
  refine qs ?_
  refine qb ?_
  refine sr (am ?_)
  refine aw (r_not rfl) ?_
  refine aa (nwq [25,6,5,4,2] ?_)
  refine cf rfl ?_
  refine sr (am ?_)
  refine aw (r_len_sl underlying38 rfl) ?_
  refine aw (r_isub rfl rfl) ?_
  refine fa 1 underlying98 rfl sizeOf96 ?_
  refine aw (r_load_cell isAgg96 rfl (fun w1 hw=>cells_get (hw.ok (Upd.mem .z)) 1 _ rfl)) ?_
  refine aw (r_len_sl underlying96 rfl) ?_
  refine aw xn (aa (nwq [29,6,5,4,2] ?_))
  obtain ⟨h53,hF⟩|⟨h53,hF⟩:=oi hF
  ·refine ct h53 ?_
   refine sr ?_
   refine aw (r_build_struct (zs:=Cd.cs c_api_Item zv10) (cs:=Cd.cs c_api_Item zv10) underlying33 zeroValue33 rfl (places_api_Item_33) rfl rfl) ?_
   refine at_store (c:=c_api_Item) (z:=zv10) (.s (.s (.s (.s .z)))) lw sizeOf33 rfl rfl rfl ?_
   refine aa (qn (dz (dz (dz (dz (wq [3,2] ?_))))))
   refine tn (qt ?_)
   refine br (tr ?_)
   have hN54:NK_api_Item (KZ w0 Z_) s_ zv10:=⟨RowK.nil ..,RowK.nil ..⟩
   have K:=os hF
   subst K
   exact at_res2 rfl (res_cell (c:=c_api_Item) (y:=zv10) rfl .z lw isAgg33 sizeOf33 (.inl rfl)) (res_tmp rfl) (fun w1 hw=>⟨Z_,s_,zv9,hM_,rfl,hN54,hw.pop⟩)
  refine cf h53 ?_
  refine at_skip ?_
  refine bm ?_
  refine qs (sr (fa 1 underlying98 rfl sizeOf96 ?_))
  refine aw (r_load_cell isAgg96 rfl (fun w1 hw=>cells_get (hw.ok (Upd.mem .z)) 1 _ rfl)) ?_
  refine aw (r_len_sl underlying96 rfl) ?_
  refine am (qn (dz (wq [41,40,39,5,4,2] ?_)))
  refine tn ?_
  refine qb ?_
  refine wq [41,40,39,5,4,2] ?_
  refine at_loop ?_
  refine at_round ?_
  refine sr (aw xl ?_)
  refine at_fix (g:=42) rfl (show (decide (0<2))=true from by decide) ?_
  refine nwq [42,41,40,39,5,4,2] ?_
  refine qs ?_
  refine ct rfl ?_
  refine sn (qs ?_)
  refine qb ?_
  refine sr (am ?_)
  refine aw (r_idx underlying96 sizeOf104 rfl rfl (by decide) rfl) ?_
  refine aw (r_load_agg (l:=zl12) isAgg104 sizeOf104 rfl rfl (fun w1 hw=>cells_mid (pre:=[]) (suf:=zl13) (hw.ok (Upd.mem .z)) rfl rfl)) ?_
  refine al (cs:=zl21) zeroValue104 ?_
  intro b55
  refine aa ?_
  refine sa 3 (zl12) .z rfl rfl sizeOf104 rfl rfl rfl ?_
  refine nt (qs (wq [41,40,39,9,8,5,4,2] ?_))
  obtain ⟨h56,hF⟩:=gd hF
  refine at_pure (φ:=∃ b o,p4=some ⟨b,o,none⟩) (fun _ hw=>row_ptr (hw.own (.s (.s (.s .z)))).row h56) ?_
  rintro ⟨b58,o59,hp57⟩
  refine at_invT [.q 46 (fun g60=>.pointer (some ⟨b55,0+1,none⟩)) [] 0 0,.q 47 (fun g60=>.func (.func 127) #[] #[]) [0] 0 0,.q 48 (fun g60=>.slice p4 t3.length c5) [] 0 0,.q 49 (fun g60=>.int .i64 0) [] 0 0,.q 50 (fun g60=>.int .i64 (wr .i64 (0+1))) [3] 0 0,.q 51 (fun g60=>.pointer (some ⟨b58,o59+Int.toNat (wr .i64 (0+1))*1,none⟩)) [2,4] 0 0,.q 52 (fun g60=>.string (lget t3 (wr .i64 (0+1)))) [5] 0 0] (fun g60 s=>match s with | _=>(Wd w0 (cellsE b55 zl12 104::cellsE b51 zl7 104::cellsE b11 (Cd.cs c_api_Item (zv9,{ zv8 with f_Kind:=t10 })) 33::rowE cStr 9 p4 c5 t3::cellsE b1 (Cd.cs c_api_Item zv10) 33::frzE w0 Z_ s_::G_))) 0 7 (by kernel_rfl) (by kernel_rfl) (by kernel_rfl) (by kernel_rfl) (by kernel_rfl) (by kernel_rfl) ⟨fun _ _ _=>rfl,fun _ _ _=>rfl,fun _ _ _=>rfl,fun _ _ _=>rfl,fun _ _ _=>rfl,fun _ _ _=>rfl,fun _ _ _=>rfl,trivial⟩ (by kernel_rfl) (fun w_ h=>⟨fun _=>g3 0 none 0 none w_,h.drew⟩) ⟨?_,?_,?_,?_,?_,?_,?_,trivial⟩ ?_
  ·intro Lx g60 s K hl hh k
   show At 60 ((2,_)::(4,_)::(5,_)::(8,_)::(9,_)::(39,_)::(40,_)::(41,_)::Lx) _ _
   refine fa 1 underlying104 rfl sizeOf101 ?_
   exact at_nil k
  ·intro Lx g60 s K hl hh k
   show At 60 ((46,_)::(2,_)::(4,_)::(5,_)::(8,_)::(9,_)::(39,_)::(40,_)::(41,_)::Lx) _ _
   obtain rfl:s=0:=by omega
   refine aw (r_load_cell isAgg101 rfl (fun w1 hw=>cells_get (hw.ok (Upd.mem .z)) 1 _ rfl)) ?_
   exact at_nil k
  ·intro Lx g60 s K hl hh k
   show At 60 ((2,_)::(4,_)::(5,_)::(8,_)::(9,_)::(39,_)::(40,_)::(41,_)::Lx) _ _
   refine am ?_
   exact at_nil k
  ·intro Lx g60 s K hl hh k
   show At 60 ((2,_)::(4,_)::(5,_)::(8,_)::(9,_)::(39,_)::(40,_)::(41,_)::Lx) _ _
   refine am ?_
   exact at_nil k
  ·intro Lx g60 s K hl hh k
   show At 60 ((49,_)::(2,_)::(4,_)::(5,_)::(8,_)::(9,_)::(39,_)::(40,_)::(41,_)::Lx) _ _
   refine aw xa ?_
   exact at_nil k
  ·intro Lx g60 s K hl hh k
   show At 60 ((48,_)::(50,_)::(2,_)::(4,_)::(5,_)::(8,_)::(9,_)::(39,_)::(40,_)::(41,_)::Lx) _ _
   refine aw (r_idx underlying38 sizeOf9 rfl rfl h56 hp57) ?_
   exact at_nil k
  ·intro Lx g60 s K hl hh k
   show At 60 ((51,_)::(2,_)::(4,_)::(5,_)::(8,_)::(9,_)::(39,_)::(40,_)::(41,_)::Lx) _ _
   obtain rfl:s=0:=by omega
   refine aw (r_load_cell isAgg9 rfl (fun _ hw=>row_cell0 (W:=fun w1=>w1=_) (fun w1 h=>by subst h;exact Below.refl _ _) (hw.own (.s (.s (.s .z)))).row h56 hp57 rfl _ rfl)) ?_
   exact at_nil k
  intro g60
  show At 60 [(46,_),(47,_),(48,_),(49,_),(50,_),(51,_),(52,_),(2,_),(4,_),(5,_),(8,_),(9,_),(39,_),(40,_),(41,_)] _ _
  refine at_callee rfl ?_
  refine at_callI func127 rfl (by kernel_rfl) rfl rfl rfl rfl ?_
  refine dz (sr (aa (ns (am (am ?_)))))
  obtain ⟨t61,ht61,hF⟩:=bM hF
  refine at_callO (c:=(cInt .u8)) (e:=5) (ys:=t61.1) (V:=fun p cap=>.tuple #[.slice p t61.1.length cap,.int .i64 t61.2]) func128 rfl (by kernel_rfl) rfl rfl (fun w hw=>script_unword_ok _ _ ht61 w) ?_
  intro p62 c63
  refine am ?_
  refine aw xe (aw xe ?_)
  refine aw (r_nilCheck rfl) ?_
  refine fa 1 underlying33 rfl sizeOf22 ?_
  refine at_store (c:=cSv Int) (z:=((p62,c63),t61.1)) (.s (.s .z)) (c_api_Item_f_Bytes_sv zv9 ({ zv8 with f_Kind:=t10 })) sizeOf22 rfl rfl rfl ?_
  refine aa (ns (am (aa (nwq [4] ?_))))
  refine qt ?_
  refine at_retI1 rfl rfl ?_
  refine aa (ns (am (aw xn (nwq [55,41,40,39,10,5,4,2] ?_))))
  obtain ⟨h64,hF⟩|⟨h64,hF⟩:=oi hF
  ·refine ct h64 ?_
   refine sr ?_
   refine aw (r_build_struct (zs:=Cd.cs c_api_Item zv10) (cs:=Cd.cs c_api_Item zv10) underlying33 zeroValue33 rfl (places_api_Item_33) rfl rfl) ?_
   refine am ?_
   refine at_store (c:=c_api_Item) (z:=zv10) (.s (.s (.s (.s .z)))) lw sizeOf33 rfl rfl rfl ?_
   refine aa (qn (dz (dz (dz (dz (wq [3,2] ?_))))))
   refine tn (qt ?_)
   refine br (tr (tr (br (tr ?_))))
   have hN65:NK_api_Item (KZ w0 Z_) s_ zv10:=⟨RowK.nil ..,RowK.nil ..⟩
   have K:=os hF
   subst K
   exact at_res2 rfl (res_cell (c:=c_api_Item) (y:=zv10) rfl .z lw isAgg33 sizeOf33 (.inl rfl)) (res_tmp rfl) (fun w1 hw=>⟨Z_,s_,zv9,hM_,rfl,hN65,hw.pop⟩)
  refine cf h64 ?_
  refine at_skip ?_
  refine bm ?_
  refine qr (aw xa ?_)
  refine at_ov (t:=58) rfl (show Value.int .i64 (wr .i64 (0+1))=.int .i64 1 from by rfl) ?_
  refine am (nt (wq [41,40,39,5,4,2] ?_))
  refine at_round ?_
  refine sr (aw xl ?_)
  refine at_fix (g:=42) rfl (show (decide (1<2))=true from by decide) ?_
  refine nwq [42,41,40,39,5,4,2] ?_
  refine qs ?_
  refine ct rfl ?_
  refine sn (qs ?_)
  refine qb ?_
  refine sr (am ?_)
  refine aw (r_idx underlying96 sizeOf104 rfl rfl (by decide) rfl) ?_
  refine aw (r_load_agg (l:=zl13) isAgg104 sizeOf104 rfl rfl (fun w1 hw=>cells_mid (pre:=zl12) (suf:=[]) (hw.ok (Upd.mem (.s .z))) rfl rfl)) ?_
  refine al (cs:=zl21) zeroValue104 ?_
  intro b66
  refine aa ?_
  refine sa 3 (zl13) .z rfl rfl sizeOf104 rfl rfl rfl ?_
  refine nt (qs (wq [41,40,39,9,8,5,4,2] ?_))
  obtain ⟨h67,hF⟩:=gd hF
  refine at_pure (φ:=∃ b o,p4=some ⟨b,o,none⟩) (fun _ hw=>row_ptr (hw.own (.s (.s (.s (.s .z))))).row h67) ?_
  rintro ⟨b69,o70,hp68⟩
  refine at_invT [.q 46 (fun g71=>.pointer (some ⟨b66,0+1,none⟩)) [] 0 0,.q 47 (fun g71=>.func (.func 131) #[] #[]) [0] 0 0,.q 48 (fun g71=>.slice p4 t3.length c5) [] 0 0,.q 49 (fun g71=>.int .i64 1) [] 0 0,.q 50 (fun g71=>.int .i64 (wr .i64 (1+1))) [3] 0 0,.q 51 (fun g71=>.pointer (some ⟨b69,o70+Int.toNat (wr .i64 (1+1))*1,none⟩)) [2,4] 0 0,.q 52 (fun g71=>.string (lget t3 (wr .i64 (1+1)))) [5] 0 0] (fun g71 s=>match s with | _=>(Wd w0 (cellsE b66 zl13 104::rowE (cInt .u8) 5 p62 c63 t61.1::cellsE b51 zl7 104::cellsE b11 (Cd.cs c_api_Item (((p62,c63),zv6),{ { zv8 with f_Kind:=t10 } with f_Bytes:=t61.1 })) 33::rowE cStr 9 p4 c5 t3::cellsE b1 (Cd.cs c_api_Item zv10) 33::frzE w0 Z_ s_::G_))) 0 7 (by kernel_rfl) (by kernel_rfl) (by kernel_rfl) (by kernel_rfl) (by kernel_rfl) (by kernel_rfl) ⟨fun _ _ _=>rfl,fun _ _ _=>rfl,fun _ _ _=>rfl,fun _ _ _=>rfl,fun _ _ _=>rfl,fun _ _ _=>rfl,fun _ _ _=>rfl,trivial⟩ (by kernel_rfl) (fun w_ h=>⟨fun _=>g3 0 none 0 none w_,h.drew⟩) ⟨?_,?_,?_,?_,?_,?_,?_,trivial⟩ ?_
  ·intro Lx g71 s K hl hh k
   show At 60 ((2,_)::(4,_)::(5,_)::(8,_)::(9,_)::(39,_)::(40,_)::(41,_)::Lx) _ _
   refine fa 1 underlying104 rfl sizeOf101 ?_
   exact at_nil k
  ·intro Lx g71 s K hl hh k
   show At 60 ((46,_)::(2,_)::(4,_)::(5,_)::(8,_)::(9,_)::(39,_)::(40,_)::(41,_)::Lx) _ _
   obtain rfl:s=0:=by omega
   refine aw (r_load_cell isAgg101 rfl (fun w1 hw=>cells_get (hw.ok (Upd.mem .z)) 1 _ rfl)) ?_
   exact at_nil k
  ·intro Lx g71 s K hl hh k
   show At 60 ((2,_)::(4,_)::(5,_)::(8,_)::(9,_)::(39,_)::(40,_)::(41,_)::Lx) _ _
   refine am ?_
   exact at_nil k
  ·intro Lx g71 s K hl hh k
   show At 60 ((2,_)::(4,_)::(5,_)::(8,_)::(9,_)::(39,_)::(40,_)::(41,_)::Lx) _ _
   refine am ?_
   exact at_nil k
  ·intro Lx g71 s K hl hh k
   show At 60 ((49,_)::(2,_)::(4,_)::(5,_)::(8,_)::(9,_)::(39,_)::(40,_)::(41,_)::Lx) _ _
   refine aw xa ?_
   exact at_nil k
  ·intro Lx g71 s K hl hh k
   show At 60 ((48,_)::(50,_)::(2,_)::(4,_)::(5,_)::(8,_)::(9,_)::(39,_)::(40,_)::(41,_)::Lx) _ _
   refine aw (r_idx underlying38 sizeOf9 rfl rfl h67 hp68) ?_
   exact at_nil k
  ·intro Lx g71 s K hl hh k
   show At 60 ((51,_)::(2,_)::(4,_)::(5,_)::(8,_)::(9,_)::(39,_)::(40,_)::(41,_)::Lx) _ _
   obtain rfl:s=0:=by omega
   refine aw (r_load_cell isAgg9 rfl (fun _ hw=>row_cell0 (W:=fun w1=>w1=_) (fun w1 h=>by subst h;exact Below.refl _ _) (hw.own (.s (.s (.s (.s .z))))).row h67 hp68 rfl _ rfl)) ?_
   exact at_nil k
  intro g71
  show At 60 [(46,_),(47,_),(48,_),(49,_),(50,_),(51,_),(52,_),(2,_),(4,_),(5,_),(8,_),(9,_),(39,_),(40,_),(41,_)] _ _
  refine at_callee rfl ?_
  refine at_callI func131 rfl (by kernel_rfl) rfl rfl rfl rfl ?_
  refine dz (sr (aa (nt (qs (sr (am ?_))))))
  refine aw (r_seql rfl rfl) ?_
  refine nwq [6,1,0] ?_
  obtain ⟨h72,hF⟩|⟨h72,hF⟩:=oi hF
  ·refine ct h72 ?_
   refine sr (aa (nwq [4] ?_))
   refine rt ?_
   refine at_retI1 rfl rfl ?_
   refine aa (nwx [41,40,39,10,5,4,2] ?_)
   refine am (aw xn ?_)
   refine at_fix (g:=55) rfl (show (0 != 0)=false from by decide) ?_
   refine nwq [55,41,40,39,10,5,4,2] ?_
   refine cf rfl ?_
   refine at_skip ?_
   refine bm ?_
   refine qr (aw xa ?_)
   refine at_ov (t:=58) rfl (show Value.int .i64 (wr .i64 (1+1))=.int .i64 2 from by rfl) ?_
   refine am (nt (wq [41,40,39,5,4,2] ?_))
   refine at_round ?_
   refine sr (aw xl ?_)
   refine at_fix (g:=42) rfl (show (decide (2<2))=false from by decide) ?_
   refine nwq [42,41,40,39,5,4,2] ?_
   refine qs ?_
   refine cf rfl ?_
   refine at_exit ?_
   refine te (te ?_)
   refine at_blk_same ?_
   refine at_drop (H:=_) (.s .z) ?_
   refine at_drop (H:=_) (.s (.s .z)) ?_
   refine tn (sr ?_)
   refine aw (r_load_aggc (c:=c_api_Item) (z:=(((p62,c63),zv6),{ { zv8 with f_Kind:=t10 } with f_Bytes:=t61.1 })) isAgg33 sizeOf33 rfl (lens_cell (.s .z) lw)) ?_
   refine at_store (c:=c_api_Item) (z:=(((p62,c63),zv6),{ { zv8 with f_Kind:=t10 } with f_Bytes:=t61.1 })) (.s (.s .z)) lw sizeOf33 rfl rfl rfl ?_
   refine aa (qn ?_)
   refine at_drop (H:=_) (.s .z) ?_
   refine wq [3,2] ?_
   refine tn (qt ?_)
   refine at_freeze (.s .z) ?_
   intro Z_ s_ hm74 hk75
   replace hM_:=Mono.mono hM_ hm74
   have hN73:NK_api_Item (KZ w0 Z_) s_ (((p62,c63),zv6),{ { zv8 with f_Kind:=t10 } with f_Bytes:=t61.1 }):=⟨hk75,RowK.nil ..⟩
   have K:=os hF
   subst K
   exact at_res2 rfl (res_cell (c:=c_api_Item) (y:=(((p62,c63),zv6),{ { zv8 with f_Kind:=t10 } with f_Bytes:=t61.1 })) rfl .z lw isAgg33 sizeOf33 (.inl rfl)) (res_tmp rfl) (fun w1 hw=>⟨Z_,s_,((p62,c63),zv6),hM_,rfl,hN73,hw.pop⟩)
  refine cf h72 ?_
  refine sns (am ?_)
  refine aw (r_nilCheck rfl) ?_
  refine fa 21 underlying33 rfl sizeOf4 ?_
  refine at_store (c:=cBool) (z:=true) (.s (.s .z)) (c_api_Item_f_Ok ((p62,c63),zv6) ({ { zv8 with f_Kind:=t10 } with f_Bytes:=t61.1 })) sizeOf4 rfl rfl rfl ?_
  refine ns (am (am ?_))
  obtain ⟨t76,ht76,hF⟩:=bM hF
  refine at_callO (c:=(cInt .u8)) (e:=5) (ys:=t76.1) (V:=fun p cap=>.tuple #[.slice p t76.1.length cap,.int .i64 t76.2]) func128 rfl (by kernel_rfl) rfl rfl (fun w hw=>script_unword_ok _ _ ht76 w) ?_
  intro p77 c78
  refine am ?_
  refine aw xe (aw xe ?_)
  refine aw (r_nilCheck rfl) ?_
  refine fa 20 underlying33 rfl sizeOf22 ?_
  refine at_store (c:=cSv Int) (z:=((p77,c78),t76.1)) (.s (.s (.s .z))) (c_api_Item_f_Result_sv ((p62,c63),zv6) ({ { { zv8 with f_Kind:=t10 } with f_Bytes:=t61.1 } with f_Ok:=true })) sizeOf22 rfl rfl rfl ?_
  refine aa (ns (am (aa (nwq [4] ?_))))
  refine qt ?_
  refine at_retI1 rfl rfl ?_
  refine aa (ns (am (aw xn (nwq [55,41,40,39,10,5,4,2] ?_))))
  obtain ⟨h79,hF⟩|⟨h79,hF⟩:=oi hF
  ·refine ct h79 ?_
   refine sr ?_
   refine aw (r_build_struct (zs:=Cd.cs c_api_Item zv10) (cs:=Cd.cs c_api_Item zv10) underlying33 zeroValue33 rfl (places_api_Item_33) rfl rfl) ?_
   refine am ?_
   refine at_store (c:=c_api_Item) (z:=zv10) (.s (.s (.s (.s (.s .z))))) lw sizeOf33 rfl rfl rfl ?_
   refine aa (qn (dz (dz (dz (dz (dz (wq [3,2] ?_)))))))
   refine tn (qt ?_)
   refine br (tr (tr (br (tr ?_))))
   have hN80:NK_api_Item (KZ w0 Z_) s_ zv10:=⟨RowK.nil ..,RowK.nil ..⟩
   have K:=os hF
   subst K
   exact at_res2 rfl (res_cell (c:=c_api_Item) (y:=zv10) rfl .z lw isAgg33 sizeOf33 (.inl rfl)) (res_tmp rfl) (fun w1 hw=>⟨Z_,s_,zv9,hM_,rfl,hN80,hw.pop⟩)
  refine cf h79 ?_
  refine at_skip ?_
  refine bm ?_
  refine qr (aw xa ?_)
  refine at_ov (t:=58) rfl (show Value.int .i64 (wr .i64 (1+1))=.int .i64 2 from by rfl) ?_
  refine am (nt (wq [41,40,39,5,4,2] ?_))
  refine at_round ?_
  refine sr (aw xl ?_)
  refine at_fix (g:=42) rfl (show (decide (2<2))=false from by decide) ?_
  refine nwq [42,41,40,39,5,4,2] ?_
  refine qs ?_
  refine cf rfl ?_
  refine at_exit ?_
  refine te (te ?_)
  refine at_blk_same ?_
  refine at_drop (H:=_) (.s (.s .z)) ?_
  refine at_drop (H:=_) (.s (.s (.s .z))) ?_
  refine tn (sr ?_)
  refine aw (r_load_aggc (c:=c_api_Item) (z:=(((p62,c63),(p77,c78)),{ { { { zv8 with f_Kind:=t10 } with f_Bytes:=t61.1 } with f_Ok:=true } with f_Result:=t76.1 })) isAgg33 sizeOf33 rfl (lens_cell (.s (.s .z)) lw)) ?_
  refine at_store (c:=c_api_Item) (z:=(((p62,c63),(p77,c78)),{ { { { zv8 with f_Kind:=t10 } with f_Bytes:=t61.1 } with f_Ok:=true } with f_Result:=t76.1 })) (.s (.s (.s .z))) lw sizeOf33 rfl rfl rfl ?_
  refine aa (qn ?_)
  refine at_drop (H:=_) (.s (.s .z)) ?_
  refine wq [3,2] ?_
  refine tn (qt ?_)
  refine at_front (.s .z) ?_
  refine at_freeze (.s (.s .z)) ?_
  intro Z_ s_ hm82 hk83
  replace hM_:=Mono.mono hM_ hm82
  refine at_freeze (.s .z) ?_
  intro Z_ s_ hm84 hk85
  replace hM_:=Mono.mono hM_ hm84
  replace hk83:=RowK.mono hk83 hm84
  have hN81:NK_api_Item (KZ w0 Z_) s_ (((p62,c63),(p77,c78)),{ { { { zv8 with f_Kind:=t10 } with f_Bytes:=t61.1 } with f_Ok:=true } with f_Result:=t76.1 }):=⟨hk83,hk85⟩
  have K:=os hF
  subst K
  exact at_res2 rfl (res_cell (c:=c_api_Item) (y:=(((p62,c63),(p77,c78)),{ { { { zv8 with f_Kind:=t10 } with f_Bytes:=t61.1 } with f_Ok:=true } with f_Result:=t76.1 })) rfl .z lw isAgg33 sizeOf33 (.inl rfl)) (res_tmp rfl) (fun w1 hw=>⟨Z_,s_,((p62,c63),(p77,c78)),hM_,rfl,hN81,hw.pop⟩)
 skip
 obtain ⟨h86,hF⟩|⟨h86,hF⟩:=oi hF
 ·skip
  refine script_shapeOf_in3 rfl rfl h12 h31 h50 h86 ?_
  intro b87
  refine am ?_
  refine aw xe (aw xe ?_)
  refine al (cs:=zl20) zeroValue98 ?_
  intro b88
  refine sa 2 ((zl19 b87)) .z rfl rfl sizeOf98 rfl rfl rfl ?_
  refine aa (nwq [7,6,5,4,2] ?_)
  refine qs ?_
  refine qb ?_
  refine sr (am ?_)
  refine aw (r_not rfl) ?_
  refine aa (nwq [25,6,5,4,2] ?_)
  refine cf rfl ?_
  refine sr (am ?_)
  refine aw (r_len_sl underlying38 rfl) ?_
  refine aw (r_isub rfl rfl) ?_
  refine fa 1 underlying98 rfl sizeOf96 ?_
  refine aw (r_load_cell isAgg96 rfl (fun w1 hw=>cells_get (hw.ok (Upd.mem .z)) 1 _ rfl)) ?_
  refine aw (r_len_sl underlying96 rfl) ?_
  refine aw xn (aa (nwq [29,6,5,4,2] ?_))
  obtain ⟨h89,hF⟩|⟨h89,hF⟩:=oi hF
  ·refine ct h89 ?_
   refine sr ?_
   refine aw (r_build_struct (zs:=Cd.cs c_api_Item zv10) (cs:=Cd.cs c_api_Item zv10) underlying33 zeroValue33 rfl (places_api_Item_33) rfl rfl) ?_
   refine at_store (c:=c_api_Item) (z:=zv10) (.s (.s (.s (.s .z)))) lw sizeOf33 rfl rfl rfl ?_
   refine aa (qn (dz (dz (dz (dz (wq [3,2] ?_))))))
   refine tn (qt ?_)
   refine br (tr ?_)
   have hN90:NK_api_Item (KZ w0 Z_) s_ zv10:=⟨RowK.nil ..,RowK.nil ..⟩
   have K:=os hF
   subst K
   exact at_res2 rfl (res_cell (c:=c_api_Item) (y:=zv10) rfl .z lw isAgg33 sizeOf33 (.inl rfl)) (res_tmp rfl) (fun w1 hw=>⟨Z_,s_,zv9,hM_,rfl,hN90,hw.pop⟩)
  refine cf h89 ?_
  refine at_skip ?_
  refine bm ?_
  refine qs (sr (fa 1 underlying98 rfl sizeOf96 ?_))
  refine aw (r_load_cell isAgg96 rfl (fun w1 hw=>cells_get (hw.ok (Upd.mem .z)) 1 _ rfl)) ?_
  refine aw (r_len_sl underlying96 rfl) ?_
  refine am (qn (dz (wq [41,40,39,5,4,2] ?_)))
  refine tn ?_
  refine qb ?_
  refine wq [41,40,39,5,4,2] ?_
  refine at_loop ?_
  refine at_round ?_
  refine sr (aw xl ?_)
  refine at_fix (g:=42) rfl (show (decide (0<3))=true from by decide) ?_
  refine nwq [42,41,40,39,5,4,2] ?_
  refine qs ?_
  refine ct rfl ?_
  refine sn (qs ?_)
  refine qb ?_
  refine sr (am ?_)
  refine aw (r_idx underlying96 sizeOf104 rfl rfl (by decide) rfl) ?_
  refine aw (r_load_agg (l:=zl14) isAgg104 sizeOf104 rfl rfl (fun w1 hw=>cells_mid (pre:=[]) (suf:=zl7) (hw.ok (Upd.mem .z)) rfl rfl)) ?_
  refine al (cs:=zl21) zeroValue104 ?_
  intro b91
  refine aa ?_
  refine sa 3 (zl14) .z rfl rfl sizeOf104 rfl rfl rfl ?_
  refine nt (qs (wq [41,40,39,9,8,5,4,2] ?_))
  obtain ⟨h92,hF⟩:=gd hF
  refine at_pure (φ:=∃ b o,p4=some ⟨b,o,none⟩) (fun _ hw=>row_ptr (hw.own (.s (.s (.s .z)))).row h92) ?_
  rintro ⟨b94,o95,hp93⟩
  refine at_invT [.q 46 (fun g96=>.pointer (some ⟨b91,0+1,none⟩)) [] 0 0,.q 47 (fun g96=>.func (.func 134) #[] #[]) [0] 0 0,.q 48 (fun g96=>.slice p4 t3.length c5) [] 0 0,.q 49 (fun g96=>.int .i64 0) [] 0 0,.q 50 (fun g96=>.int .i64 (wr .i64 (0+1))) [3] 0 0,.q 51 (fun g96=>.pointer (some ⟨b94,o95+Int.toNat (wr .i64 (0+1))*1,none⟩)) [2,4] 0 0,.q 52 (fun g96=>.string (lget t3 (wr .i64 (0+1)))) [5] 0 0] (fun g96 s=>match s with | _=>(Wd w0 (cellsE b91 zl14 104::cellsE b87 zl5 104::cellsE b11 (Cd.cs c_api_Item (zv9,{ zv8 with f_Kind:=t10 })) 33::rowE cStr 9 p4 c5 t3::cellsE b1 (Cd.cs c_api_Item zv10) 33::frzE w0 Z_ s_::G_))) 0 7 (by kernel_rfl) (by kernel_rfl) (by kernel_rfl) (by kernel_rfl) (by kernel_rfl) (by kernel_rfl) ⟨fun _ _ _=>rfl,fun _ _ _=>rfl,fun _ _ _=>rfl,fun _ _ _=>rfl,fun _ _ _=>rfl,fun _ _ _=>rfl,fun _ _ _=>rfl,trivial⟩ (by kernel_rfl) (fun w_ h=>⟨fun _=>g3 0 none 0 none w_,h.drew⟩) ⟨?_,?_,?_,?_,?_,?_,?_,trivial⟩ ?_
  ·intro Lx g96 s K hl hh k
   show At 60 ((2,_)::(4,_)::(5,_)::(8,_)::(9,_)::(39,_)::(40,_)::(41,_)::Lx) _ _
   refine fa 1 underlying104 rfl sizeOf101 ?_
   exact at_nil k
  ·intro Lx g96 s K hl hh k
   show At 60 ((46,_)::(2,_)::(4,_)::(5,_)::(8,_)::(9,_)::(39,_)::(40,_)::(41,_)::Lx) _ _
   obtain rfl:s=0:=by omega
   refine aw (r_load_cell isAgg101 rfl (fun w1 hw=>cells_get (hw.ok (Upd.mem .z)) 1 _ rfl)) ?_
   exact at_nil k
  ·intro Lx g96 s K hl hh k
   show At 60 ((2,_)::(4,_)::(5,_)::(8,_)::(9,_)::(39,_)::(40,_)::(41,_)::Lx) _ _
   refine am ?_
   exact at_nil k
  ·intro Lx g96 s K hl hh k
   show At 60 ((2,_)::(4,_)::(5,_)::(8,_)::(9,_)::(39,_)::(40,_)::(41,_)::Lx) _ _
   refine am ?_
   exact at_nil k
  ·intro Lx g96 s K hl hh k
   show At 60 ((49,_)::(2,_)::(4,_)::(5,_)::(8,_)::(9,_)::(39,_)::(40,_)::(41,_)::Lx) _ _
   refine aw xa ?_
   exact at_nil k
  ·intro Lx g96 s K hl hh k
   show At 60 ((48,_)::(50,_)::(2,_)::(4,_)::(5,_)::(8,_)::(9,_)::(39,_)::(40,_)::(41,_)::Lx) _ _
   refine aw (r_idx underlying38 sizeOf9 rfl rfl h92 hp93) ?_
   exact at_nil k
  ·intro Lx g96 s K hl hh k
   show At 60 ((51,_)::(2,_)::(4,_)::(5,_)::(8,_)::(9,_)::(39,_)::(40,_)::(41,_)::Lx) _ _
   obtain rfl:s=0:=by omega
   refine aw (r_load_cell isAgg9 rfl (fun _ hw=>row_cell0 (W:=fun w1=>w1=_) (fun w1 h=>by subst h;exact Below.refl _ _) (hw.own (.s (.s (.s .z)))).row h92 hp93 rfl _ rfl)) ?_
   exact at_nil k
  intro g96
  show At 60 [(46,_),(47,_),(48,_),(49,_),(50,_),(51,_),(52,_),(2,_),(4,_),(5,_),(8,_),(9,_),(39,_),(40,_),(41,_)] _ _
  refine at_callee rfl ?_
  refine at_callI func134 rfl (by kernel_rfl) rfl rfl rfl rfl ?_
  refine dz (sr (aa (ns (am (am ?_)))))
  obtain ⟨t97,ht97,hF⟩:=bM hF
  refine cB func99 rfl (fun w hw=>hostport_Parse_ok _ _ ht97 w (hg_bytealg_MaxLen.on hw.below) (hg_strconv_ErrRange.on hw.below) (hg_strconv_ErrSyntax.on hw.below)) ?_
  refine am ?_
  refine aw xe (aw xe ?_)
  refine aw (r_nilCheck rfl) ?_
  refine fa 2 underlying33 rfl sizeOf27 ?_
  refine at_store (c:=c_api_Endpoint) (z:=t97.1) (.s .z) (c_api_Item_f_From zv9 ({ zv8 with f_Kind:=t10 })) sizeOf27 rfl rfl rfl ?_
  refine aa (ns (am (aa (nwq [4] ?_))))
  refine qt ?_
  refine at_retI1 rfl rfl ?_
  refine aa (ns (am (aw xn (nwq [55,41,40,39,10,5,4,2] ?_))))
  obtain ⟨h98,hF⟩|⟨h98,hF⟩:=oi hF
  ·refine ct h98 ?_
   refine sr ?_
   refine aw (r_build_struct (zs:=Cd.cs c_api_Item zv10) (cs:=Cd.cs c_api_Item zv10) underlying33 zeroValue33 rfl (places_api_Item_33) rfl rfl) ?_
   refine am ?_
   refine at_store (c:=c_api_Item) (z:=zv10) (.s (.s (.s .z))) lw sizeOf33 rfl rfl rfl ?_
   refine aa (qn (dz (dz (dz (wq [3,2] ?_)))))
   refine tn (qt ?_)
   refine br (tr (tr (br (tr ?_))))
   have hN99:NK_api_Item (KZ w0 Z_) s_ zv10:=⟨RowK.nil ..,RowK.nil ..⟩
   have K:=os hF
   subst K
   exact at_res2 rfl (res_cell (c:=c_api_Item) (y:=zv10) rfl .z lw isAgg33 sizeOf33 (.inl rfl)) (res_tmp rfl) (fun w1 hw=>⟨Z_,s_,zv9,hM_,rfl,hN99,hw.pop⟩)
  refine cf h98 ?_
  refine at_skip ?_
  refine bm ?_
  refine qr (aw xa ?_)
  refine at_ov (t:=58) rfl (show Value.int .i64 (wr .i64 (0+1))=.int .i64 1 from by rfl) ?_
  refine am (nt (wq [41,40,39,5,4,2] ?_))
  refine at_round ?_
  refine sr (aw xl ?_)
  refine at_fix (g:=42) rfl (show (decide (1<3))=true from by decide) ?_
  refine nwq [42,41,40,39,5,4,2] ?_
  refine qs ?_
  refine ct rfl ?_
  refine sn (qs ?_)
  refine qb ?_
  refine sr (am ?_)
  refine aw (r_idx underlying96 sizeOf104 rfl rfl (by decide) rfl) ?_
  refine aw (r_load_agg (l:=zl12) isAgg104 sizeOf104 rfl rfl (fun w1 hw=>cells_mid (pre:=zl14) (suf:=zl13) (hw.ok (Upd.mem .z)) rfl rfl)) ?_
  refine al (cs:=zl21) zeroValue104 ?_
  intro b100
  refine aa ?_
  refine sa 3 (zl12) .z rfl rfl sizeOf104 rfl rfl rfl ?_
  refine nt (qs (wq [41,40,39,9,8,5,4,2] ?_))
  obtain ⟨h101,hF⟩:=gd hF
  refine at_pure (φ:=∃ b o,p4=some ⟨b,o,none⟩) (fun _ hw=>row_ptr (hw.own (.s (.s (.s .z)))).row h101) ?_
  rintro ⟨b103,o104,hp102⟩
  refine at_invT [.q 46 (fun g105=>.pointer (some ⟨b100,0+1,none⟩)) [] 0 0,.q 47 (fun g105=>.func (.func 127) #[] #[]) [0] 0 0,.q 48 (fun g105=>.slice p4 t3.length c5) [] 0 0,.q 49 (fun g105=>.int .i64 1) [] 0 0,.q 50 (fun g105=>.int .i64 (wr .i64 (1+1))) [3] 0 0,.q 51 (fun g105=>.pointer (some ⟨b103,o104+Int.toNat (wr .i64 (1+1))*1,none⟩)) [2,4] 0 0,.q 52 (fun g105=>.string (lget t3 (wr .i64 (1+1)))) [5] 0 0] (fun g105 s=>match s with | _=>(Wd w0 (cellsE b100 zl12 104::cellsE b87 zl5 104::cellsE b11 (Cd.cs c_api_Item (zv9,{ { zv8 with f_Kind:=t10 } with f_From:=t97.1 })) 33::rowE cStr 9 p4 c5 t3::cellsE b1 (Cd.cs c_api_Item zv10) 33::frzE w0 Z_ s_::G_))) 0 7 (by kernel_rfl) (by kernel_rfl) (by kernel_rfl) (by kernel_rfl) (by kernel_rfl) (by kernel_rfl) ⟨fun _ _ _=>rfl,fun _ _ _=>rfl,fun _ _ _=>rfl,fun _ _ _=>rfl,fun _ _ _=>rfl,fun _ _ _=>rfl,fun _ _ _=>rfl,trivial⟩ (by kernel_rfl) (fun w_ h=>⟨fun _=>g3 0 none 0 none w_,h.drew⟩) ⟨?_,?_,?_,?_,?_,?_,?_,trivial⟩ ?_
  ·intro Lx g105 s K hl hh k
   show At 60 ((2,_)::(4,_)::(5,_)::(8,_)::(9,_)::(39,_)::(40,_)::(41,_)::Lx) _ _
   refine fa 1 underlying104 rfl sizeOf101 ?_
   exact at_nil k
  ·intro Lx g105 s K hl hh k
   show At 60 ((46,_)::(2,_)::(4,_)::(5,_)::(8,_)::(9,_)::(39,_)::(40,_)::(41,_)::Lx) _ _
   obtain rfl:s=0:=by omega
   refine aw (r_load_cell isAgg101 rfl (fun w1 hw=>cells_get (hw.ok (Upd.mem .z)) 1 _ rfl)) ?_
   exact at_nil k
  ·intro Lx g105 s K hl hh k
   show At 60 ((2,_)::(4,_)::(5,_)::(8,_)::(9,_)::(39,_)::(40,_)::(41,_)::Lx) _ _
   refine am ?_
   exact at_nil k
  ·intro Lx g105 s K hl hh k
   show At 60 ((2,_)::(4,_)::(5,_)::(8,_)::(9,_)::(39,_)::(40,_)::(41,_)::Lx) _ _
   refine am ?_
   exact at_nil k
  ·intro Lx g105 s K hl hh k
   show At 60 ((49,_)::(2,_)::(4,_)::(5,_)::(8,_)::(9,_)::(39,_)::(40,_)::(41,_)::Lx) _ _
   refine aw xa ?_
   exact at_nil k
  ·intro Lx g105 s K hl hh k
   show At 60 ((48,_)::(50,_)::(2,_)::(4,_)::(5,_)::(8,_)::(9,_)::(39,_)::(40,_)::(41,_)::Lx) _ _
   refine aw (r_idx underlying38 sizeOf9 rfl rfl h101 hp102) ?_
   exact at_nil k
  ·intro Lx g105 s K hl hh k
   show At 60 ((51,_)::(2,_)::(4,_)::(5,_)::(8,_)::(9,_)::(39,_)::(40,_)::(41,_)::Lx) _ _
   obtain rfl:s=0:=by omega
   refine aw (r_load_cell isAgg9 rfl (fun _ hw=>row_cell0 (W:=fun w1=>w1=_) (fun w1 h=>by subst h;exact Below.refl _ _) (hw.own (.s (.s (.s .z)))).row h101 hp102 rfl _ rfl)) ?_
   exact at_nil k
  intro g105
  show At 60 [(46,_),(47,_),(48,_),(49,_),(50,_),(51,_),(52,_),(2,_),(4,_),(5,_),(8,_),(9,_),(39,_),(40,_),(41,_)] _ _
  refine at_callee rfl ?_
  refine at_callI func127 rfl (by kernel_rfl) rfl rfl rfl rfl ?_
  refine dz (sr (aa (ns (am (am ?_)))))
  obtain ⟨t106,ht106,hF⟩:=bM hF
  refine at_callO (c:=(cInt .u8)) (e:=5) (ys:=t106.1) (V:=fun p cap=>.tuple #[.slice p t106.1.length cap,.int .i64 t106.2]) func128 rfl (by kernel_rfl) rfl rfl (fun w hw=>script_unword_ok _ _ ht106 w) ?_
  intro p107 c108
  refine am ?_
  refine aw xe (aw xe ?_)
  refine aw (r_nilCheck rfl) ?_
  refine fa 1 underlying33 rfl sizeOf22 ?_
  refine at_store (c:=cSv Int) (z:=((p107,c108),t106.1)) (.s (.s .z)) (c_api_Item_f_Bytes_sv zv9 ({ { zv8 with f_Kind:=t10 } with f_From:=t97.1 })) sizeOf22 rfl rfl rfl ?_
  refine aa (ns (am (aa (nwq [4] ?_))))
  refine qt ?_
  refine at_retI1 rfl rfl ?_
  refine aa (ns (am (aw xn (nwq [55,41,40,39,10,5,4,2] ?_))))
  obtain ⟨h109,hF⟩|⟨h109,hF⟩:=oi hF
  ·refine ct h109 ?_
   refine sr ?_
   refine aw (r_build_struct (zs:=Cd.cs c_api_Item zv10) (cs:=Cd.cs c_api_Item zv10) underlying33 zeroValue33 rfl (places_api_Item_33) rfl rfl) ?_
   refine am ?_
   refine at_store (c:=c_api_Item) (z:=zv10) (.s (.s (.s (.s .z)))) lw sizeOf33 rfl rfl rfl ?_
   refine aa (qn (dz (dz (dz (dz (wq [3,2] ?_))))))
   refine tn (qt ?_)
   refine br (tr (tr (br (tr ?_))))
   have hN110:NK_api_Item (KZ w0 Z_) s_ zv10:=⟨RowK.nil ..,RowK.nil ..⟩
   have K:=os hF
   subst K
   exact at_res2 rfl (res_cell (c:=c_api_Item) (y:=zv10) rfl .z lw isAgg33 sizeOf33 (.inl rfl)) (res_tmp rfl) (fun w1 hw=>⟨Z_,s_,zv9,hM_,rfl,hN110,hw.pop⟩)
  refine cf h109 ?_
  refine at_skip ?_
  refine bm ?_
  refine qr (aw xa ?_)
  refine at_ov (t:=58) rfl (show Value.int .i64 (wr .i64 (1+1))=.int .i64 2 from by rfl) ?_
  refine am (nt (wq [41,40,39,5,4,2] ?_))
  refine at_round ?_
  refine sr (aw xl ?_)
  refine at_fix (g:=42) rfl (show (decide (2<3))=true from by decide) ?_
  refine nwq [42,41,40,39,5,4,2] ?_
  refine qs ?_
  refine ct rfl ?_
  refine sn (qs ?_)
  refine qb ?_
  refine sr (am ?_)
  refine aw (r_idx underlying96 sizeOf104 rfl rfl (by decide) rfl) ?_
  refine aw (r_load_agg (l:=zl13) isAgg104 sizeOf104 rfl rfl (fun w1 hw=>cells_mid (pre:=zl8) (suf:=[]) (hw.ok (Upd.mem (.s .z))) rfl rfl)) ?_
  refine al (cs:=zl21) zeroValue104 ?_
  intro b111
  refine aa ?_
  refine sa 3 (zl13) .z rfl rfl sizeOf104 rfl rfl rfl ?_
  refine nt (qs (wq [41,40,39,9,8,5,4,2] ?_))
  obtain ⟨h112,hF⟩:=gd hF
  refine at_pure (φ:=∃ b o,p4=some ⟨b,o,none⟩) (fun _ hw=>row_ptr (hw.own (.s (.s (.s (.s .z))))).row h112) ?_
  rintro ⟨b114,o115,hp113⟩
  refine at_invT [.q 46 (fun g116=>.pointer (some ⟨b111,0+1,none⟩)) [] 0 0,.q 47 (fun g116=>.func (.func 131) #[] #[]) [0] 0 0,.q 48 (fun g116=>.slice p4 t3.length c5) [] 0 0,.q 49 (fun g116=>.int .i64 2) [] 0 0,.q 50 (fun g116=>.int .i64 (wr .i64 (2+1))) [3] 0 0,.q 51 (fun g116=>.pointer (some ⟨b114,o115+Int.toNat (wr .i64 (2+1))*1,none⟩)) [2,4] 0 0,.q 52 (fun g116=>.string (lget t3 (wr .i64 (2+1)))) [5] 0 0] (fun g116 s=>match s with | _=>(Wd w0 (cellsE b111 zl13 104::rowE (cInt .u8) 5 p107 c108 t106.1::cellsE b87 zl5 104::cellsE b11 (Cd.cs c_api_Item (((p107,c108),zv6),{ { { zv8 with f_Kind:=t10 } with f_From:=t97.1 } with f_Bytes:=t106.1 })) 33::rowE cStr 9 p4 c5 t3::cellsE b1 (Cd.cs c_api_Item zv10) 33::frzE w0 Z_ s_::G_))) 0 7 (by kernel_rfl) (by kernel_rfl) (by kernel_rfl) (by kernel_rfl) (by kernel_rfl) (by kernel_rfl) ⟨fun _ _ _=>rfl,fun _ _ _=>rfl,fun _ _ _=>rfl,fun _ _ _=>rfl,fun _ _ _=>rfl,fun _ _ _=>rfl,fun _ _ _=>rfl,trivial⟩ (by kernel_rfl) (fun w_ h=>⟨fun _=>g3 0 none 0 none w_,h.drew⟩) ⟨?_,?_,?_,?_,?_,?_,?_,trivial⟩ ?_
  ·intro Lx g116 s K hl hh k
   show At 60 ((2,_)::(4,_)::(5,_)::(8,_)::(9,_)::(39,_)::(40,_)::(41,_)::Lx) _ _
   refine fa 1 underlying104 rfl sizeOf101 ?_
   exact at_nil k
  ·intro Lx g116 s K hl hh k
   show At 60 ((46,_)::(2,_)::(4,_)::(5,_)::(8,_)::(9,_)::(39,_)::(40,_)::(41,_)::Lx) _ _
   obtain rfl:s=0:=by omega
   refine aw (r_load_cell isAgg101 rfl (fun w1 hw=>cells_get (hw.ok (Upd.mem .z)) 1 _ rfl)) ?_
   exact at_nil k
  ·intro Lx g116 s K hl hh k
   show At 60 ((2,_)::(4,_)::(5,_)::(8,_)::(9,_)::(39,_)::(40,_)::(41,_)::Lx) _ _
   refine am ?_
   exact at_nil k
  ·intro Lx g116 s K hl hh k
   show At 60 ((2,_)::(4,_)::(5,_)::(8,_)::(9,_)::(39,_)::(40,_)::(41,_)::Lx) _ _
   refine am ?_
   exact at_nil k
  ·intro Lx g116 s K hl hh k
   show At 60 ((49,_)::(2,_)::(4,_)::(5,_)::(8,_)::(9,_)::(39,_)::(40,_)::(41,_)::Lx) _ _
   refine aw xa ?_
   exact at_nil k
  ·intro Lx g116 s K hl hh k
   show At 60 ((48,_)::(50,_)::(2,_)::(4,_)::(5,_)::(8,_)::(9,_)::(39,_)::(40,_)::(41,_)::Lx) _ _
   refine aw (r_idx underlying38 sizeOf9 rfl rfl h112 hp113) ?_
   exact at_nil k
  ·intro Lx g116 s K hl hh k
   show At 60 ((51,_)::(2,_)::(4,_)::(5,_)::(8,_)::(9,_)::(39,_)::(40,_)::(41,_)::Lx) _ _
   obtain rfl:s=0:=by omega
   refine aw (r_load_cell isAgg9 rfl (fun _ hw=>row_cell0 (W:=fun w1=>w1=_) (fun w1 h=>by subst h;exact Below.refl _ _) (hw.own (.s (.s (.s (.s .z))))).row h112 hp113 rfl _ rfl)) ?_
   exact at_nil k
  intro g116
  show At 60 [(46,_),(47,_),(48,_),(49,_),(50,_),(51,_),(52,_),(2,_),(4,_),(5,_),(8,_),(9,_),(39,_),(40,_),(41,_)] _ _
  refine at_callee rfl ?_
  refine at_callI func131 rfl (by kernel_rfl) rfl rfl rfl rfl ?_
  refine dz (sr (aa (nt (qs (sr (am ?_))))))
  refine aw (r_seql rfl rfl) ?_
  refine nwq [6,1,0] ?_
  obtain ⟨h117,hF⟩|⟨h117,hF⟩:=oi hF
  ·refine ct h117 ?_
   refine sr (aa (nwq [4] ?_))
   refine rt ?_
   refine at_retI1 rfl rfl ?_
   refine aa (nwx [41,40,39,10,5,4,2] ?_)
   refine am (aw xn ?_)
   refine at_fix (g:=55) rfl (show (0 != 0)=false from by decide) ?_
   refine nwq [55,41,40,39,10,5,4,2] ?_
   refine cf rfl ?_
   refine at_skip ?_
   refine bm ?_
   refine qr (aw xa ?_)
   refine at_ov (t:=58) rfl (show Value.int .i64 (wr .i64 (2+1))=.int .i64 3 from by rfl) ?_
   refine am (nt (wq [41,40,39,5,4,2] ?_))
   refine at_round ?_
   refine sr (aw xl ?_)
   refine at_fix (g:=42) rfl (show (decide (3<3))=false from by decide) ?_
   refine nwq [42,41,40,39,5,4,2] ?_
   refine qs ?_
   refine cf rfl ?_
   refine at_exit ?_
   refine te (te ?_)
   refine at_blk_same ?_
   refine at_drop (H:=_) (.s .z) ?_
   refine at_drop (H:=_) (.s (.s .z)) ?_
   refine tn (sr ?_)
   refine aw (r_load_aggc (c:=c_api_Item) (z:=(((p107,c108),zv6),{ { { zv8 with f_Kind:=t10 } with f_From:=t97.1 } with f_Bytes:=t106.1 })) isAgg33 sizeOf33 rfl (lens_cell (.s .z) lw)) ?_
   refine at_store (c:=c_api_Item) (z:=(((p107,c108),zv6),{ { { zv8 with f_Kind:=t10 } with f_From:=t97.1 } with f_Bytes:=t106.1 })) (.s (.s .z)) lw sizeOf33 rfl rfl rfl ?_
   refine aa (qn ?_)
   refine at_drop (H:=_) (.s .z) ?_
   refine wq [3,2] ?_
   refine tn (qt ?_)
   refine at_freeze (.s .z) ?_
   intro Z_ s_ hm119 hk120
   replace hM_:=Mono.mono hM_ hm119
   have hN118:NK_api_Item (KZ w0 Z_) s_ (((p107,c108),zv6),{ { { zv8 with f_Kind:=t10 } with f_From:=t97.1 } with f_Bytes:=t106.1 }):=⟨hk120,RowK.nil ..⟩
   have K:=os hF
   subst K
   exact at_res2 rfl (res_cell (c:=c_api_Item) (y:=(((p107,c108),zv6),{ { { zv8 with f_Kind:=t10 } with f_From:=t97.1 } with f_Bytes:=t106.1 })) rfl .z lw isAgg33 sizeOf33 (.inl rfl)) (res_tmp rfl) (fun w1 hw=>⟨Z_,s_,((p107,c108),zv6),hM_,rfl,hN118,hw.pop⟩)
  refine cf h117 ?_
  refine sns (am ?_)
  refine aw (r_nilCheck rfl) ?_
  refine fa 21 underlying33 rfl sizeOf4 ?_
  refine at_store (c:=cBool) (z:=true) (.s (.s .z)) (c_api_Item_f_Ok ((p107,c108),zv6) ({ { { zv8 with f_Kind:=t10 } with f_From:=t97.1 } with f_Bytes:=t106.1 })) sizeOf4 rfl rfl rfl ?_
  refine ns (am (am ?_))
  obtain ⟨t121,ht121,hF⟩:=bM hF
  refine at_callO (c:=(cInt .u8)) (e:=5) (ys:=t121.1) (V:=fun p cap=>.tuple #[.slice p t121.1.length cap,.int .i64 t121.2]) func128 rfl (by kernel_rfl) rfl rfl (fun w hw=>script_unword_ok _ _ ht121 w) ?_
  intro p122 c123
  refine am ?_
  refine aw xe (aw xe ?_)
  refine aw (r_nilCheck rfl) ?_
  refine fa 20 underlying33 rfl sizeOf22 ?_
  refine at_store (c:=cSv Int) (z:=((p122,c123),t121.1)) (.s (.s (.s .z))) (c_api_Item_f_Result_sv ((p107,c108),zv6) ({ { { { zv8 with f_Kind:=t10 } with f_From:=t97.1 } with f_Bytes:=t106.1 } with f_Ok:=true })) sizeOf22 rfl rfl rfl ?_
  refine aa (ns (am (aa (nwq [4] ?_))))
  refine qt ?_
  refine at_retI1 rfl rfl ?_
  refine aa (ns (am (aw xn (nwq [55,41,40,39,10,5,4,2] ?_))))
  obtain ⟨h124,hF⟩|⟨h124,hF⟩:=oi hF
  ·refine ct h124 ?_
   refine sr ?_
   refine aw (r_build_struct (zs:=Cd.cs c_api_Item zv10) (cs:=Cd.cs c_api_Item zv10) underlying33 zeroValue33 rfl (places_api_Item_33) rfl rfl) ?_
   refine am ?_
   refine at_store (c:=c_api_Item) (z:=zv10) (.s (.s (.s (.s (.s .z))))) lw sizeOf33 rfl rfl rfl ?_
   refine aa (qn (dz (dz (dz (dz (dz (wq [3,2] ?_)))))))
   refine tn (qt ?_)
   refine br (tr (tr (br (tr ?_))))
   have hN125:NK_api_Item (KZ w0 Z_) s_ zv10:=⟨RowK.nil ..,RowK.nil ..⟩
   have K:=os hF
   subst K
   exact at_res2 rfl (res_cell (c:=c_api_Item) (y:=zv10) rfl .z lw isAgg33 sizeOf33 (.inl rfl)) (res_tmp rfl) (fun w1 hw=>⟨Z_,s_,zv9,hM_,rfl,hN125,hw.pop⟩)
  refine cf h124 ?_
  refine at_skip ?_
  refine bm ?_
  refine qr (aw xa ?_)
  refine at_ov (t:=58) rfl (show Value.int .i64 (wr .i64 (2+1))=.int .i64 3 from by rfl) ?_
  refine am (nt (wq [41,40,39,5,4,2] ?_))
  refine at_round ?_
  refine sr (aw xl ?_)
  refine at_fix (g:=42) rfl (show (decide (3<3))=false from by decide) ?_
  refine nwq [42,41,40,39,5,4,2] ?_
  refine qs ?_
  refine cf rfl ?_
  refine at_exit ?_
  refine te (te ?_)
  refine at_blk_same ?_
  refine at_drop (H:=_) (.s (.s .z)) ?_
  refine at_drop (H:=_) (.s (.s (.s .z))) ?_
  refine tn (sr ?_)
  refine aw (r_load_aggc (c:=c_api_Item) (z:=(((p107,c108),(p122,c123)),{ { { { { zv8 with f_Kind:=t10 } with f_From:=t97.1 } with f_Bytes:=t106.1 } with f_Ok:=true } with f_Result:=t121.1 })) isAgg33 sizeOf33 rfl (lens_cell (.s (.s .z)) lw)) ?_
  refine at_store (c:=c_api_Item) (z:=(((p107,c108),(p122,c123)),{ { { { { zv8 with f_Kind:=t10 } with f_From:=t97.1 } with f_Bytes:=t106.1 } with f_Ok:=true } with f_Result:=t121.1 })) (.s (.s (.s .z))) lw sizeOf33 rfl rfl rfl ?_
  refine aa (qn ?_)
  refine at_drop (H:=_) (.s (.s .z)) ?_
  refine wq [3,2] ?_
  refine tn (qt ?_)
  refine at_front (.s .z) ?_
  refine at_freeze (.s (.s .z)) ?_
  intro Z_ s_ hm127 hk128
  replace hM_:=Mono.mono hM_ hm127
  refine at_freeze (.s .z) ?_
  intro Z_ s_ hm129 hk130
  replace hM_:=Mono.mono hM_ hm129
  replace hk128:=RowK.mono hk128 hm129
  have hN126:NK_api_Item (KZ w0 Z_) s_ (((p107,c108),(p122,c123)),{ { { { { zv8 with f_Kind:=t10 } with f_From:=t97.1 } with f_Bytes:=t106.1 } with f_Ok:=true } with f_Result:=t121.1 }):=⟨hk128,hk130⟩
  have K:=os hF
  subst K
  exact at_res2 rfl (res_cell (c:=c_api_Item) (y:=(((p107,c108),(p122,c123)),{ { { { { zv8 with f_Kind:=t10 } with f_From:=t97.1 } with f_Bytes:=t106.1 } with f_Ok:=true } with f_Result:=t121.1 })) rfl .z lw isAgg33 sizeOf33 (.inl rfl)) (res_tmp rfl) (fun w1 hw=>⟨Z_,s_,((p107,c108),(p122,c123)),hM_,rfl,hN126,hw.pop⟩)
 skip
 obtain ⟨h131,hF⟩|⟨h131,hF⟩:=oi hF
 ·skip
  refine script_shapeOf_in4 rfl rfl h12 h31 h50 h86 h131 ?_
  intro b132 b133 b134
  refine am ?_
  refine aw xe (aw xe ?_)
  refine al (cs:=zl20) zeroValue98 ?_
  intro b135
  refine sa 2 ((zl9 b134)) .z rfl rfl sizeOf98 rfl rfl rfl ?_
  refine aa (nwq [7,6,5,4,2] ?_)
  refine qs ?_
  refine qb ?_
  refine sr (am ?_)
  refine aw (r_not rfl) ?_
  refine aa (nwq [25,6,5,4,2] ?_)
  refine cf rfl ?_
  refine sr (am ?_)
  refine aw (r_len_sl underlying38 rfl) ?_
  refine aw (r_isub rfl rfl) ?_
  refine fa 1 underlying98 rfl sizeOf96 ?_
  refine aw (r_load_cell isAgg96 rfl (fun w1 hw=>cells_get (hw.ok (Upd.mem .z)) 1 _ rfl)) ?_
  refine aw (r_len_sl underlying96 rfl) ?_
  refine aw xn (aa (nwq [29,6,5,4,2] ?_))
  obtain ⟨h136,hF⟩|⟨h136,hF⟩:=oi hF
  ·refine ct h136 ?_
   refine sr ?_
   refine aw (r_build_struct (zs:=Cd.cs c_api_Item zv10) (cs:=Cd.cs c_api_Item zv10) underlying33 zeroValue33 rfl (places_api_Item_33) rfl rfl) ?_
   refine at_store (c:=c_api_Item) (z:=zv10) (.s (.s (.s (.s (.s (.s .z)))))) lw sizeOf33 rfl rfl rfl ?_
   refine aa (qn (dz (dz (dz (dz (dz (dz (wq [3,2] ?_))))))))
   refine tn (qt ?_)
   refine br (tr ?_)
   have hN137:NK_api_Item (KZ w0 Z_) s_ zv10:=⟨RowK.nil ..,RowK.nil ..⟩
   have K:=os hF
   subst K
   exact at_res2 rfl (res_cell (c:=c_api_Item) (y:=zv10) rfl .z lw isAgg33 sizeOf33 (.inl rfl)) (res_tmp rfl) (fun w1 hw=>⟨Z_,s_,zv9,hM_,rfl,hN137,hw.pop⟩)
  refine cf h136 ?_
  refine at_skip ?_
  refine bm ?_
  refine qs (sr (fa 1 underlying98 rfl sizeOf96 ?_))
  refine aw (r_load_cell isAgg96 rfl (fun w1 hw=>cells_get (hw.ok (Upd.mem .z)) 1 _ rfl)) ?_
  refine aw (r_len_sl underlying96 rfl) ?_
  refine am (qn (dz (wq [41,40,39,5,4,2] ?_)))
  refine tn ?_
  refine qb ?_
  refine wq [41,40,39,5,4,2] ?_
  refine at_loop ?_
  refine at_round ?_
  refine sr (aw xl ?_)
  refine at_fix (g:=42) rfl (show (decide (0<4))=true from by decide) ?_
  refine nwq [42,41,40,39,5,4,2] ?_
  refine qs ?_
  refine ct rfl ?_
  refine sn (qs ?_)
  refine qb ?_
  refine sr (am ?_)
  refine aw (r_idx underlying96 sizeOf104 rfl rfl (by decide) rfl) ?_
  refine aw (r_load_agg (l:=zl10) isAgg104 sizeOf104 rfl rfl (fun w1 hw=>cells_mid (pre:=[]) (suf:=(zl1 b132 b133)) (hw.ok (Upd.mem .z)) rfl rfl)) ?_
  refine al (cs:=zl21) zeroValue104 ?_
  intro b138
  refine aa ?_
  refine sa 3 (zl10) .z rfl rfl sizeOf104 rfl rfl rfl ?_
  refine nt (qs (wq [41,40,39,9,8,5,4,2] ?_))
  obtain ⟨h139,hF⟩:=gd hF
  refine at_pure (φ:=∃ b o,p4=some ⟨b,o,none⟩) (fun _ hw=>row_ptr (hw.own (.s (.s (.s (.s (.s .z)))))).row h139) ?_
  rintro ⟨b141,o142,hp140⟩
  refine at_invT [.q 46 (fun g143=>.pointer (some ⟨b138,0+1,none⟩)) [] 0 0,.q 47 (fun g143=>.func (.func 137) #[] #[]) [0] 0 0,.q 48 (fun g143=>.slice p4 t3.length c5) [] 0 0,.q 49 (fun g143=>.int .i64 0) [] 0 0,.q 50 (fun g143=>.int .i64 (wr .i64 (0+1))) [3] 0 0,.q 51 (fun g143=>.pointer (some ⟨b141,o142+Int.toNat (wr .i64 (0+1))*1,none⟩)) [2,4] 0 0,.q 52 (fun g143=>.string (lget t3 (wr .i64 (0+1)))) [5] 0 0] (fun g143 s=>match s with | _=>(Wd w0 (cellsE b138 zl10 104::cellsE b134 (zl0 b132 b133) 104::cellsE b133 zl23 133::cellsE b132 zl22 133::cellsE b11 (Cd.cs c_api_Item (zv9,{ zv8 with f_Kind:=t10 })) 33::rowE cStr 9 p4 c5 t3::cellsE b1 (Cd.cs c_api_Item zv10) 33::frzE w0 Z_ s_::G_))) 0 7 (by kernel_rfl) (by kernel_rfl) (by kernel_rfl) (by kernel_rfl) (by kernel_rfl) (by kernel_rfl) ⟨fun _ _ _=>rfl,fun _ _ _=>rfl,fun _ _ _=>rfl,fun _ _ _=>rfl,fun _ _ _=>rfl,fun _ _ _=>rfl,fun _ _ _=>rfl,trivial⟩ (by kernel_rfl) (fun w_ h=>⟨fun _=>g3 0 none 0 none w_,h.drew⟩) ⟨?_,?_,?_,?_,?_,?_,?_,trivial⟩ ?_
  ·intro Lx g143 s K hl hh k
   show At 60 ((2,_)::(4,_)::(5,_)::(8,_)::(9,_)::(39,_)::(40,_)::(41,_)::Lx) _ _
   refine fa 1 underlying104 rfl sizeOf101 ?_
   exact at_nil k
  ·intro Lx g143 s K hl hh k
   show At 60 ((46,_)::(2,_)::(4,_)::(5,_)::(8,_)::(9,_)::(39,_)::(40,_)::(41,_)::Lx) _ _
   obtain rfl:s=0:=by omega
   refine aw (r_load_cell isAgg101 rfl (fun w1 hw=>cells_get (hw.ok (Upd.mem .z)) 1 _ rfl)) ?_
   exact at_nil k
  ·intro Lx g143 s K hl hh k
   show At 60 ((2,_)::(4,_)::(5,_)::(8,_)::(9,_)::(39,_)::(40,_)::(41,_)::Lx) _ _
   refine am ?_
   exact at_nil k
  ·intro Lx g143 s K hl hh k
   show At 60 ((2,_)::(4,_)::(5,_)::(8,_)::(9,_)::(39,_)::(40,_)::(41,_)::Lx) _ _
   refine am ?_
   exact at_nil k
  ·intro Lx g143 s K hl hh k
   show At 60 ((49,_)::(2,_)::(4,_)::(5,_)::(8,_)::(9,_)::(39,_)::(40,_)::(41,_)::Lx) _ _
   refine aw xa ?_
   exact at_nil k
  ·intro Lx g143 s K hl hh k
   show At 60 ((48,_)::(50,_)::(2,_)::(4,_)::(5,_)::(8,_)::(9,_)::(39,_)::(40,_)::(41,_)::Lx) _ _
   refine aw (r_idx underlying38 sizeOf9 rfl rfl h139 hp140) ?_
   exact at_nil k
  ·intro Lx g143 s K hl hh k
   show At 60 ((51,_)::(2,_)::(4,_)::(5,_)::(8,_)::(9,_)::(39,_)::(40,_)::(41,_)::Lx) _ _
   obtain rfl:s=0:=by omega
   refine aw (r_load_cell isAgg9 rfl (fun _ hw=>row_cell0 (W:=fun w1=>w1=_) (fun w1 h=>by subst h;exact Below.refl _ _) (hw.own (.s (.s (.s (.s (.s .z)))))).row h139 hp140 rfl _ rfl)) ?_
   exact at_nil k
  intro g143
  show At 60 [(46,_),(47,_),(48,_),(49,_),(50,_),(51,_),(52,_),(2,_),(4,_),(5,_),(8,_),(9,_),(39,_),(40,_),(41,_)] _ _
  refine at_callee rfl ?_
  refine at_callI func137 rfl (by kernel_rfl) rfl rfl rfl rfl ?_
  refine dz (sr (aa (ns (am (am ?_)))))
  obtain ⟨t144,ht144,hF⟩:=bM hF
  refine cB func94 rfl (fun w hw=>keys_ParseHex_ok _ _ ht144 w) ?_
  refine am ?_
  refine aw xe (aw xe ?_)
  refine aw (r_nilCheck rfl) ?_
  refine fa 22 underlying33 rfl sizeOf29 ?_
  refine at_store (c:=(cVec (cInt .u8) 32 (by decide))) (z:=t144.1) (.s (.s (.s .z))) (c_api_Item_f_Key zv9 ({ zv8 with f_Kind:=t10 })) sizeOf29 rfl rfl rfl ?_
  refine aa (ns (am (aa (nwq [4] ?_))))
  refine qt ?_
  refine at_retI1 rfl rfl ?_
  refine aa (ns (am (aw xn (nwq [55,41,40,39,10,5,4,2] ?_))))
  obtain ⟨h145,hF⟩|⟨h145,hF⟩:=oi hF
  ·refine ct h145 ?_
   refine sr ?_
   refine aw (r_build_struct (zs:=Cd.cs c_api_Item zv10) (cs:=Cd.cs c_api_Item zv10) underlying33 zeroValue33 rfl (places_api_Item_33) rfl rfl) ?_
   refine am ?_
   refine at_store (c:=c_api_Item) (z:=zv10) (.s (.s (.s (.s (.s .z))))) lw sizeOf33 rfl rfl rfl ?_
   refine aa (qn (dz (dz (dz (dz (dz (wq [3,2] ?_)))))))
   refine tn (qt ?_)
   refine br (tr (tr (br (tr ?_))))
   have hN146:NK_api_Item (KZ w0 Z_) s_ zv10:=⟨RowK.nil ..,RowK.nil ..⟩
   have K:=os hF
   subst K
   exact at_res2 rfl (res_cell (c:=c_api_Item) (y:=zv10) rfl .z lw isAgg33 sizeOf33 (.inl rfl)) (res_tmp rfl) (fun w1 hw=>⟨Z_,s_,zv9,hM_,rfl,hN146,hw.pop⟩)
  refine cf h145 ?_
  refine at_skip ?_
  refine bm ?_
  refine qr (aw xa ?_)
  refine at_ov (t:=58) rfl (show Value.int .i64 (wr .i64 (0+1))=.int .i64 1 from by rfl) ?_
  refine am (nt (wq [41,40,39,5,4,2] ?_))
  refine at_round ?_
  refine sr (aw xl ?_)
  refine at_fix (g:=42) rfl (show (decide (1<4))=true from by decide) ?_
  refine nwq [42,41,40,39,5,4,2] ?_
  refine qs ?_
  refine ct rfl ?_
  refine sn (qs ?_)
  refine qb ?_
  refine sr (am ?_)
  refine aw (r_idx underlying96 sizeOf104 rfl rfl (by decide) rfl) ?_
  refine aw (r_load_agg (l:=(zl6 b132)) isAgg104 sizeOf104 rfl rfl (fun w1 hw=>cells_mid (pre:=zl10) (suf:=(zl3 b133)) (hw.ok (Upd.mem .z)) rfl rfl)) ?_
  refine al (cs:=zl21) zeroValue104 ?_
  intro b147
  refine aa ?_
  refine sa 3 ((zl6 b132)) .z rfl rfl sizeOf104 rfl rfl rfl ?_
  refine nt (qs (wq [41,40,39,9,8,5,4,2] ?_))
  obtain ⟨h148,hF⟩:=gd hF
  refine at_pure (φ:=∃ b o,p4=some ⟨b,o,none⟩) (fun _ hw=>row_ptr (hw.own (.s (.s (.s (.s (.s .z)))))).row h148) ?_
  rintro ⟨b150,o151,hp149⟩
  refine at_invT [.q 46 (fun g152=>.pointer (some ⟨b147,0+1,none⟩)) [] 0 0,.q 47 (fun g152=>.func (.func 123) #[] #[.pointer (some ⟨b132,0,none⟩)]) [0] 0 0,.q 48 (fun g152=>.slice p4 t3.length c5) [] 0 0,.q 49 (fun g152=>.int .i64 1) [] 0 0,.q 50 (fun g152=>.int .i64 (wr .i64 (1+1))) [3] 0 0,.q 51 (fun g152=>.pointer (some ⟨b150,o151+Int.toNat (wr .i64 (1+1))*1,none⟩)) [2,4] 0 0,.q 52 (fun g152=>.string (lget t3 (wr .i64 (1+1)))) [5] 0 0] (fun g152 s=>match s with | _=>(Wd w0 (cellsE b147 (zl6 b132) 104::cellsE b134 (zl0 b132 b133) 104::cellsE b133 zl23 133::cellsE b132 zl22 133::cellsE b11 (Cd.cs c_api_Item (zv9,{ { zv8 with f_Kind:=t10 } with f_Key:=t144.1 })) 33::rowE cStr 9 p4 c5 t3::cellsE b1 (Cd.cs c_api_Item zv10) 33::frzE w0 Z_ s_::G_))) 0 7 (by kernel_rfl) (by kernel_rfl) (by kernel_rfl) (by kernel_rfl) (by kernel_rfl) (by kernel_rfl) ⟨fun _ _ _=>rfl,fun _ _ _=>rfl,fun _ _ _=>rfl,fun _ _ _=>rfl,fun _ _ _=>rfl,fun _ _ _=>rfl,fun _ _ _=>rfl,trivial⟩ (by kernel_rfl) (fun w_ h=>⟨fun _=>g3 0 none 0 none w_,h.drew⟩) ⟨?_,?_,?_,?_,?_,?_,?_,trivial⟩ ?_
  ·intro Lx g152 s K hl hh k
   show At 60 ((2,_)::(4,_)::(5,_)::(8,_)::(9,_)::(39,_)::(40,_)::(41,_)::Lx) _ _
   refine fa 1 underlying104 rfl sizeOf101 ?_
   exact at_nil k
  ·intro Lx g152 s K hl hh k
   show At 60 ((46,_)::(2,_)::(4,_)::(5,_)::(8,_)::(9,_)::(39,_)::(40,_)::(41,_)::Lx) _ _
   obtain rfl:s=0:=by omega
   refine aw (r_load_cell isAgg101 rfl (fun w1 hw=>cells_get (hw.ok (Upd.mem .z)) 1 _ rfl)) ?_
   exact at_nil k
  ·intro Lx g152 s K hl hh k
   show At 60 ((2,_)::(4,_)::(5,_)::(8,_)::(9,_)::(39,_)::(40,_)::(41,_)::Lx) _ _
   refine am ?_
   exact at_nil k
  ·intro Lx g152 s K hl hh k
   show At 60 ((2,_)::(4,_)::(5,_)::(8,_)::(9,_)::(39,_)::(40,_)::(41,_)::Lx) _ _
   refine am ?_
   exact at_nil k
  ·intro Lx g152 s K hl hh k
   show At 60 ((49,_)::(2,_)::(4,_)::(5,_)::(8,_)::(9,_)::(39,_)::(40,_)::(41,_)::Lx) _ _
   refine aw xa ?_
   exact at_nil k
  ·intro Lx g152 s K hl hh k
   show At 60 ((48,_)::(50,_)::(2,_)::(4,_)::(5,_)::(8,_)::(9,_)::(39,_)::(40,_)::(41,_)::Lx) _ _
   refine aw (r_idx underlying38 sizeOf9 rfl rfl h148 hp149) ?_
   exact at_nil k
  ·intro Lx g152 s K hl hh k
   show At 60 ((51,_)::(2,_)::(4,_)::(5,_)::(8,_)::(9,_)::(39,_)::(40,_)::(41,_)::Lx) _ _
   obtain rfl:s=0:=by omega
   refine aw (r_load_cell isAgg9 rfl (fun _ hw=>row_cell0 (W:=fun w1=>w1=_) (fun w1 h=>by subst h;exact Below.refl _ _) (hw.own (.s (.s (.s (.s (.s .z)))))).row h148 hp149 rfl _ rfl)) ?_
   exact at_nil k
  intro g152
  show At 60 [(46,_),(47,_),(48,_),(49,_),(50,_),(51,_),(52,_),(2,_),(4,_),(5,_),(8,_),(9,_),(39,_),(40,_),(41,_)] _ _
  refine at_calleeC (caps:=[.pointer (some ⟨b132,0,none⟩)]) rfl ?_
  refine at_callI func123 rfl (by kernel_rfl) rfl rfl rfl rfl ?_
  refine dz (sr (aa (ns (am ?_))))
  obtain ⟨t153,ht153,hF⟩:=bM hF
  refine cB func111 rfl (fun w hw=>decimal_Read_ok _ _ _ ht153 w (hg_strconv_ErrRange.on hw.below) (hg_strconv_ErrSyntax.on hw.below)) ?_
  refine am ?_
  refine aw xe (aw xe (aa (aa (nwx [7,6,2,0] ?_))))
  refine aw (r_load_cell isAgg133 rfl (fun w1 hw=>cells_get (hw.ok (Upd.mem (.s (.s .z)))) 0 _ rfl)) ?_
  refine am ?_
  refine at_callee rfl ?_
  refine at_callI func76 rfl (by kernel_rfl) rfl rfl rfl rfl ?_
  refine sr (aa (ns (am ?_)))
  refine aw (r_nilCheck rfl) ?_
  refine fa 54 underlying33 rfl sizeOf30 (aa (nwq [2] ?_))
  refine qt ?_
  refine at_retI1 rfl rfl ?_
  refine am ?_
  refine aw (r_conv underlying31 underlying30 rfl) ?_
  refine aw (r_nilCheck rfl) ?_
  refine at_store (c:=(cInt .u32)) (z:=wr .u32 t153.1) (.s (.s (.s .z))) (c_api_Item_f_Local zv9 ({ { zv8 with f_Kind:=t10 } with f_Key:=t144.1 })) sizeOf30 rfl rfl rfl ?_
  refine ns (am (aa (nwq [5] ?_)))
  refine qt ?_
  refine at_retI1 rfl rfl ?_
  refine aa (ns (am (aw xn (nwq [55,41,40,39,10,5,4,2] ?_))))
  obtain ⟨h154,hF⟩|⟨h154,hF⟩:=oi hF
  ·refine ct h154 ?_
   refine sr ?_
   refine aw (r_build_struct (zs:=Cd.cs c_api_Item zv10) (cs:=Cd.cs c_api_Item zv10) underlying33 zeroValue33 rfl (places_api_Item_33) rfl rfl) ?_
   refine am ?_
   refine at_store (c:=c_api_Item) (z:=zv10) (.s (.s (.s (.s (.s .z))))) lw sizeOf33 rfl rfl rfl ?_
   refine aa (qn (dz (dz (dz (dz (dz (wq [3,2] ?_)))))))
   refine tn (qt ?_)
   refine br (tr (tr (br (tr ?_))))
   have hN155:NK_api_Item (KZ w0 Z_) s_ zv10:=⟨RowK.nil ..,RowK.nil ..⟩
   have K:=os hF
   subst K
   exact at_res2 rfl (res_cell (c:=c_api_Item) (y:=zv10) rfl .z lw isAgg33 sizeOf33 (.inl rfl)) (res_tmp rfl) (fun w1 hw=>⟨Z_,s_,zv9,hM_,rfl,hN155,hw.pop⟩)
  refine cf h154 ?_
  refine at_skip ?_
  refine bm ?_
  refine qr (aw xa ?_)
  refine at_ov (t:=58) rfl (show Value.int .i64 (wr .i64 (1+1))=.int .i64 2 from by rfl) ?_
  refine am (nt (wq [41,40,39,5,4,2] ?_))
  refine at_round ?_
  refine sr (aw xl ?_)
  refine at_fix (g:=42) rfl (show (decide (2<4))=true from by decide) ?_
  refine nwq [42,41,40,39,5,4,2] ?_
  refine qs ?_
  refine ct rfl ?_
  refine sn (qs ?_)
  refine qb ?_
  refine sr (am ?_)
  refine aw (r_idx underlying96 sizeOf104 rfl rfl (by decide) rfl) ?_
  refine aw (r_load_agg (l:=(zl6 b133)) isAgg104 sizeOf104 rfl rfl (fun w1 hw=>cells_mid (pre:=(zl4 b132)) (suf:=zl11) (hw.ok (Upd.mem .z)) rfl rfl)) ?_
  refine al (cs:=zl21) zeroValue104 ?_
  intro b156
  refine aa ?_
  refine sa 3 ((zl6 b133)) .z rfl rfl sizeOf104 rfl rfl rfl ?_
  refine nt (qs (wq [41,40,39,9,8,5,4,2] ?_))
  obtain ⟨h157,hF⟩:=gd hF
  refine at_pure (φ:=∃ b o,p4=some ⟨b,o,none⟩) (fun _ hw=>row_ptr (hw.own (.s (.s (.s (.s (.s .z)))))).row h157) ?_
  rintro ⟨b159,o160,hp158⟩
  refine at_invT [.q 46 (fun g161=>.pointer (some ⟨b156,0+1,none⟩)) [] 0 0,.q 47 (fun g161=>.func (.func 123) #[] #[.pointer (some ⟨b133,0,none⟩)]) [0] 0 0,.q 48 (fun g161=>.slice p4 t3.length c5) [] 0 0,.q 49 (fun g161=>.int .i64 2) [] 0 0,.q 50 (fun g161=>.int .i64 (wr .i64 (2+1))) [3] 0 0,.q 51 (fun g161=>.pointer (some ⟨b159,o160+Int.toNat (wr .i64 (2+1))*1,none⟩)) [2,4] 0 0,.q 52 (fun g161=>.string (lget t3 (wr .i64 (2+1)))) [5] 0 0] (fun g161 s=>match s with | _=>(Wd w0 (cellsE b156 (zl6 b133) 104::cellsE b134 (zl0 b132 b133) 104::cellsE b133 zl23 133::cellsE b132 zl22 133::cellsE b11 (Cd.cs c_api_Item (zv9,{ { { zv8 with f_Kind:=t10 } with f_Key:=t144.1 } with f_Local:=wr .u32 t153.1 })) 33::rowE cStr 9 p4 c5 t3::cellsE b1 (Cd.cs c_api_Item zv10) 33::frzE w0 Z_ s_::G_))) 0 7 (by kernel_rfl) (by kernel_rfl) (by kernel_rfl) (by kernel_rfl) (by kernel_rfl) (by kernel_rfl) ⟨fun _ _ _=>rfl,fun _ _ _=>rfl,fun _ _ _=>rfl,fun _ _ _=>rfl,fun _ _ _=>rfl,fun _ _ _=>rfl,fun _ _ _=>rfl,trivial⟩ (by kernel_rfl) (fun w_ h=>⟨fun _=>g3 0 none 0 none w_,h.drew⟩) ⟨?_,?_,?_,?_,?_,?_,?_,trivial⟩ ?_
  ·intro Lx g161 s K hl hh k
   show At 60 ((2,_)::(4,_)::(5,_)::(8,_)::(9,_)::(39,_)::(40,_)::(41,_)::Lx) _ _
   refine fa 1 underlying104 rfl sizeOf101 ?_
   exact at_nil k
  ·intro Lx g161 s K hl hh k
   show At 60 ((46,_)::(2,_)::(4,_)::(5,_)::(8,_)::(9,_)::(39,_)::(40,_)::(41,_)::Lx) _ _
   obtain rfl:s=0:=by omega
   refine aw (r_load_cell isAgg101 rfl (fun w1 hw=>cells_get (hw.ok (Upd.mem .z)) 1 _ rfl)) ?_
   exact at_nil k
  ·intro Lx g161 s K hl hh k
   show At 60 ((2,_)::(4,_)::(5,_)::(8,_)::(9,_)::(39,_)::(40,_)::(41,_)::Lx) _ _
   refine am ?_
   exact at_nil k
  ·intro Lx g161 s K hl hh k
   show At 60 ((2,_)::(4,_)::(5,_)::(8,_)::(9,_)::(39,_)::(40,_)::(41,_)::Lx) _ _
   refine am ?_
   exact at_nil k
  ·intro Lx g161 s K hl hh k
   show At 60 ((49,_)::(2,_)::(4,_)::(5,_)::(8,_)::(9,_)::(39,_)::(40,_)::(41,_)::Lx) _ _
   refine aw xa ?_
   exact at_nil k
  ·intro Lx g161 s K hl hh k
   show At 60 ((48,_)::(50,_)::(2,_)::(4,_)::(5,_)::(8,_)::(9,_)::(39,_)::(40,_)::(41,_)::Lx) _ _
   refine aw (r_idx underlying38 sizeOf9 rfl rfl h157 hp158) ?_
   exact at_nil k
  ·intro Lx g161 s K hl hh k
   show At 60 ((51,_)::(2,_)::(4,_)::(5,_)::(8,_)::(9,_)::(39,_)::(40,_)::(41,_)::Lx) _ _
   obtain rfl:s=0:=by omega
   refine aw (r_load_cell isAgg9 rfl (fun _ hw=>row_cell0 (W:=fun w1=>w1=_) (fun w1 h=>by subst h;exact Below.refl _ _) (hw.own (.s (.s (.s (.s (.s .z)))))).row h157 hp158 rfl _ rfl)) ?_
   exact at_nil k
  intro g161
  show At 60 [(46,_),(47,_),(48,_),(49,_),(50,_),(51,_),(52,_),(2,_),(4,_),(5,_),(8,_),(9,_),(39,_),(40,_),(41,_)] _ _
  refine at_calleeC (caps:=[.pointer (some ⟨b133,0,none⟩)]) rfl ?_
  refine at_callI func123 rfl (by kernel_rfl) rfl rfl rfl rfl ?_
  refine dz (sr (aa (ns (am ?_))))
  obtain ⟨t162,ht162,hF⟩:=bM hF
  refine cB func111 rfl (fun w hw=>decimal_Read_ok _ _ _ ht162 w (hg_strconv_ErrRange.on hw.below) (hg_strconv_ErrSyntax.on hw.below)) ?_
  refine am ?_
  refine aw xe (aw xe (aa (aa (nwx [7,6,2,0] ?_))))
  refine aw (r_load_cell isAgg133 rfl (fun w1 hw=>cells_get (hw.ok (Upd.mem (.s .z))) 0 _ rfl)) ?_
  refine am ?_
  refine at_callee rfl ?_
  refine at_callI func77 rfl (by kernel_rfl) rfl rfl rfl rfl ?_
  refine sr (aa (ns (am ?_)))
  refine aw (r_nilCheck rfl) ?_
  refine fa 55 underlying33 rfl sizeOf30 (aa (nwq [2] ?_))
  refine qt ?_
  refine at_retI1 rfl rfl ?_
  refine am ?_
  refine aw (r_conv underlying31 underlying30 rfl) ?_
  refine aw (r_nilCheck rfl) ?_
  refine at_store (c:=(cInt .u32)) (z:=wr .u32 t162.1) (.s (.s (.s .z))) (c_api_Item_f_Remote zv9 ({ { { zv8 with f_Kind:=t10 } with f_Key:=t144.1 } with f_Local:=wr .u32 t153.1 })) sizeOf30 rfl rfl rfl ?_
  refine ns (am (aa (nwq [5] ?_)))
  refine qt ?_
  refine at_retI1 rfl rfl ?_
  refine aa (ns (am (aw xn (nwq [55,41,40,39,10,5,4,2] ?_))))
  obtain ⟨h163,hF⟩|⟨h163,hF⟩:=oi hF
  ·refine ct h163 ?_
   refine sr ?_
   refine aw (r_build_struct (zs:=Cd.cs c_api_Item zv10) (cs:=Cd.cs c_api_Item zv10) underlying33 zeroValue33 rfl (places_api_Item_33) rfl rfl) ?_
   refine am ?_
   refine at_store (c:=c_api_Item) (z:=zv10) (.s (.s (.s (.s (.s .z))))) lw sizeOf33 rfl rfl rfl ?_
   refine aa (qn (dz (dz (dz (dz (dz (wq [3,2] ?_)))))))
   refine tn (qt ?_)
   refine br (tr (tr (br (tr ?_))))
   have hN164:NK_api_Item (KZ w0 Z_) s_ zv10:=⟨RowK.nil ..,RowK.nil ..⟩
   have K:=os hF
   subst K
   exact at_res2 rfl (res_cell (c:=c_api_Item) (y:=zv10) rfl .z lw isAgg33 sizeOf33 (.inl rfl)) (res_tmp rfl) (fun w1 hw=>⟨Z_,s_,zv9,hM_,rfl,hN164,hw.pop⟩)
  refine cf h163 ?_
  refine at_skip ?_
  refine bm ?_
  refine qr (aw xa ?_)
  refine at_ov (t:=58) rfl (show Value.int .i64 (wr .i64 (2+1))=.int .i64 3 from by rfl) ?_
  refine am (nt (wq [41,40,39,5,4,2] ?_))
  refine at_round ?_
  refine sr (aw xl ?_)
  refine at_fix (g:=42) rfl (show (decide (3<4))=true from by decide) ?_
  refine nwq [42,41,40,39,5,4,2] ?_
  refine qs ?_
  refine ct rfl ?_
  refine sn (qs ?_)
  refine qb ?_
  refine sr (am ?_)
  refine aw (r_idx underlying96 sizeOf104 rfl rfl (by decide) rfl) ?_
  refine aw (r_load_agg (l:=zl11) isAgg104 sizeOf104 rfl rfl (fun w1 hw=>cells_mid (pre:=(zl2 b132 b133)) (suf:=[]) (hw.ok (Upd.mem .z)) rfl rfl)) ?_
  refine al (cs:=zl21) zeroValue104 ?_
  intro b165
  refine aa ?_
  refine sa 3 (zl11) .z rfl rfl sizeOf104 rfl rfl rfl ?_
  refine nt (qs (wq [41,40,39,9,8,5,4,2] ?_))
  obtain ⟨h166,hF⟩:=gd hF
  refine at_pure (φ:=∃ b o,p4=some ⟨b,o,none⟩) (fun _ hw=>row_ptr (hw.own (.s (.s (.s (.s (.s .z)))))).row h166) ?_
  rintro ⟨b168,o169,hp167⟩
  refine at_invT [.q 46 (fun g170=>.pointer (some ⟨b165,0+1,none⟩)) [] 0 0,.q 47 (fun g170=>.func (.func 140) #[] #[]) [0] 0 0,.q 48 (fun g170=>.slice p4 t3.length c5) [] 0 0,.q 49 (fun g170=>.int .i64 3) [] 0 0,.q 50 (fun g170=>.int .i64 (wr .i64 (3+1))) [3] 0 0,.q 51 (fun g170=>.pointer (some ⟨b168,o169+Int.toNat (wr .i64 (3+1))*1,none⟩)) [2,4] 0 0,.q 52 (fun g170=>.string (lget t3 (wr .i64 (3+1)))) [5] 0 0] (fun g170 s=>match s with | _=>(Wd w0 (cellsE b165 zl11 104::cellsE b134 (zl0 b132 b133) 104::cellsE b133 zl23 133::cellsE b132 zl22 133::cellsE b11 (Cd.cs c_api_Item (zv9,{ { { { zv8 with f_Kind:=t10 } with f_Key:=t144.1 } with f_Local:=wr .u32 t153.1 } with f_Remote:=wr .u32 t162.1 })) 33::rowE cStr 9 p4 c5 t3::cellsE b1 (Cd.cs c_api_Item zv10) 33::frzE w0 Z_ s_::G_))) 0 7 (by kernel_rfl) (by kernel_rfl) (by kernel_rfl) (by kernel_rfl) (by kernel_rfl) (by kernel_rfl) ⟨fun _ _ _=>rfl,fun _ _ _=>rfl,fun _ _ _=>rfl,fun _ _ _=>rfl,fun _ _ _=>rfl,fun _ _ _=>rfl,fun _ _ _=>rfl,trivial⟩ (by kernel_rfl) (fun w_ h=>⟨fun _=>g3 0 none 0 none w_,h.drew⟩) ⟨?_,?_,?_,?_,?_,?_,?_,trivial⟩ ?_
  ·intro Lx g170 s K hl hh k
   show At 60 ((2,_)::(4,_)::(5,_)::(8,_)::(9,_)::(39,_)::(40,_)::(41,_)::Lx) _ _
   refine fa 1 underlying104 rfl sizeOf101 ?_
   exact at_nil k
  ·intro Lx g170 s K hl hh k
   show At 60 ((46,_)::(2,_)::(4,_)::(5,_)::(8,_)::(9,_)::(39,_)::(40,_)::(41,_)::Lx) _ _
   obtain rfl:s=0:=by omega
   refine aw (r_load_cell isAgg101 rfl (fun w1 hw=>cells_get (hw.ok (Upd.mem .z)) 1 _ rfl)) ?_
   exact at_nil k
  ·intro Lx g170 s K hl hh k
   show At 60 ((2,_)::(4,_)::(5,_)::(8,_)::(9,_)::(39,_)::(40,_)::(41,_)::Lx) _ _
   refine am ?_
   exact at_nil k
  ·intro Lx g170 s K hl hh k
   show At 60 ((2,_)::(4,_)::(5,_)::(8,_)::(9,_)::(39,_)::(40,_)::(41,_)::Lx) _ _
   refine am ?_
   exact at_nil k
  ·intro Lx g170 s K hl hh k
   show At 60 ((49,_)::(2,_)::(4,_)::(5,_)::(8,_)::(9,_)::(39,_)::(40,_)::(41,_)::Lx) _ _
   refine aw xa ?_
   exact at_nil k
  ·intro Lx g170 s K hl hh k
   show At 60 ((48,_)::(50,_)::(2,_)::(4,_)::(5,_)::(8,_)::(9,_)::(39,_)::(40,_)::(41,_)::Lx) _ _
   refine aw (r_idx underlying38 sizeOf9 rfl rfl h166 hp167) ?_
   exact at_nil k
  ·intro Lx g170 s K hl hh k
   show At 60 ((51,_)::(2,_)::(4,_)::(5,_)::(8,_)::(9,_)::(39,_)::(40,_)::(41,_)::Lx) _ _
   obtain rfl:s=0:=by omega
   refine aw (r_load_cell isAgg9 rfl (fun _ hw=>row_cell0 (W:=fun w1=>w1=_) (fun w1 h=>by subst h;exact Below.refl _ _) (hw.own (.s (.s (.s (.s (.s .z)))))).row h166 hp167 rfl _ rfl)) ?_
   exact at_nil k
  intro g170
  show At 60 [(46,_),(47,_),(48,_),(49,_),(50,_),(51,_),(52,_),(2,_),(4,_),(5,_),(8,_),(9,_),(39,_),(40,_),(41,_)] _ _
  refine at_callee rfl ?_
  refine at_callI func140 rfl (by kernel_rfl) rfl rfl rfl rfl ?_
  refine dz (sr (aa (ns (am (am ?_)))))
  obtain ⟨t171,ht171,hF⟩:=bM hF
  refine cB func111 rfl (fun w hw=>decimal_Read_ok _ _ _ ht171 w (hg_strconv_ErrRange.on hw.below) (hg_strconv_ErrSyntax.on hw.below)) ?_
  refine am ?_
  refine aw xe (aw xe ?_)
  refine aw (r_nilCheck rfl) ?_
  refine fa 56 underlying33 rfl sizeOf31 ?_
  refine at_store (c:=(cInt .u64)) (z:=t171.1) (.s (.s (.s .z))) (c_api_Item_f_Next zv9 ({ { { { zv8 with f_Kind:=t10 } with f_Key:=t144.1 } with f_Local:=wr .u32 t153.1 } with f_Remote:=wr .u32 t162.1 })) sizeOf31 rfl rfl rfl ?_
  refine aa (ns (am (aa (nwq [4] ?_))))
  refine qt ?_
  refine at_retI1 rfl rfl ?_
  refine aa (ns (am (aw xn (nwq [55,41,40,39,10,5,4,2] ?_))))
  obtain ⟨h172,hF⟩|⟨h172,hF⟩:=oi hF
  ·refine ct h172 ?_
   refine sr ?_
   refine aw (r_build_struct (zs:=Cd.cs c_api_Item zv10) (cs:=Cd.cs c_api_Item zv10) underlying33 zeroValue33 rfl (places_api_Item_33) rfl rfl) ?_
   refine am ?_
   refine at_store (c:=c_api_Item) (z:=zv10) (.s (.s (.s (.s (.s .z))))) lw sizeOf33 rfl rfl rfl ?_
   refine aa (qn (dz (dz (dz (dz (dz (wq [3,2] ?_)))))))
   refine tn (qt ?_)
   refine br (tr (tr (br (tr ?_))))
   have hN173:NK_api_Item (KZ w0 Z_) s_ zv10:=⟨RowK.nil ..,RowK.nil ..⟩
   have K:=os hF
   subst K
   exact at_res2 rfl (res_cell (c:=c_api_Item) (y:=zv10) rfl .z lw isAgg33 sizeOf33 (.inl rfl)) (res_tmp rfl) (fun w1 hw=>⟨Z_,s_,zv9,hM_,rfl,hN173,hw.pop⟩)
  refine cf h172 ?_
  refine at_skip ?_
  refine bm ?_
  refine qr (aw xa ?_)
  refine at_ov (t:=58) rfl (show Value.int .i64 (wr .i64 (3+1))=.int .i64 4 from by rfl) ?_
  refine am (nt (wq [41,40,39,5,4,2] ?_))
  refine at_round ?_
  refine sr (aw xl ?_)
  refine at_fix (g:=42) rfl (show (decide (4<4))=false from by decide) ?_
  refine nwq [42,41,40,39,5,4,2] ?_
  refine qs ?_
  refine cf rfl ?_
  refine at_exit ?_
  refine te (te ?_)
  refine at_blk_same ?_
  refine dz (dz (dz ?_))
  refine at_drop (H:=_) (.s .z) ?_
  refine tn (sr ?_)
  refine aw (r_load_aggc (c:=c_api_Item) (z:=(zv9,{ { { { { zv8 with f_Kind:=t10 } with f_Key:=t144.1 } with f_Local:=wr .u32 t153.1 } with f_Remote:=wr .u32 t162.1 } with f_Next:=t171.1 })) isAgg33 sizeOf33 rfl (lens_cell .z lw)) ?_
  refine at_store (c:=c_api_Item) (z:=(zv9,{ { { { { zv8 with f_Kind:=t10 } with f_Key:=t144.1 } with f_Local:=wr .u32 t153.1 } with f_Remote:=wr .u32 t162.1 } with f_Next:=t171.1 })) (.s .z) lw sizeOf33 rfl rfl rfl ?_
  refine aa (qn (dz (wq [3,2] ?_)))
  refine tn (qt ?_)
  have hN174:NK_api_Item (KZ w0 Z_) s_ (zv9,{ { { { { zv8 with f_Kind:=t10 } with f_Key:=t144.1 } with f_Local:=wr .u32 t153.1 } with f_Remote:=wr .u32 t162.1 } with f_Next:=t171.1 }):=⟨RowK.nil ..,RowK.nil ..⟩
  have K:=os hF
  subst K
  exact at_res2 rfl (res_cell (c:=c_api_Item) (y:=(zv9,{ { { { { zv8 with f_Kind:=t10 } with f_Key:=t144.1 } with f_Local:=wr .u32 t153.1 } with f_Remote:=wr .u32 t162.1 } with f_Next:=t171.1 })) rfl .z lw isAgg33 sizeOf33 (.inl rfl)) (res_tmp rfl) (fun w1 hw=>⟨Z_,s_,zv9,hM_,rfl,hN174,hw.pop⟩)
 skip
 obtain ⟨h175,hF⟩|⟨h175,hF⟩:=oi hF
 ·skip
  refine script_shapeOf_in5 rfl rfl h12 h31 h50 h86 h131 h175 ?_
  intro b176 b177
  refine am ?_
  refine aw xe (aw xe ?_)
  refine al (cs:=zl20) zeroValue98 ?_
  intro b178
  refine sa 2 ((zl15 b177)) .z rfl rfl sizeOf98 rfl rfl rfl ?_
  refine aa (nwq [7,6,5,4,2] ?_)
  refine qs ?_
  refine qb ?_
  refine sr (am ?_)
  refine aw (r_not rfl) ?_
  refine aa (nwq [25,6,5,4,2] ?_)
  refine cf rfl ?_
  refine sr (am ?_)
  refine aw (r_len_sl underlying38 rfl) ?_
  refine aw (r_isub rfl rfl) ?_
  refine fa 1 underlying98 rfl sizeOf96 ?_
  refine aw (r_load_cell isAgg96 rfl (fun w1 hw=>cells_get (hw.ok (Upd.mem .z)) 1 _ rfl)) ?_
  refine aw (r_len_sl underlying96 rfl) ?_
  refine aw xn (aa (nwq [29,6,5,4,2] ?_))
  obtain ⟨h179,hF⟩|⟨h179,hF⟩:=oi hF
  ·refine ct h179 ?_
   refine sr ?_
   refine aw (r_build_struct (zs:=Cd.cs c_api_Item zv10) (cs:=Cd.cs c_api_Item zv10) underlying33 zeroValue33 rfl (places_api_Item_33) rfl rfl) ?_
   refine at_store (c:=c_api_Item) (z:=zv10) (.s (.s (.s (.s (.s .z))))) lw sizeOf33 rfl rfl rfl ?_
   refine aa (qn (dz (dz (dz (dz (dz (wq [3,2] ?_)))))))
   refine tn (qt ?_)
   refine br (tr ?_)
   have hN180:NK_api_Item (KZ w0 Z_) s_ zv10:=⟨RowK.nil ..,RowK.nil ..⟩
   have K:=os hF
   subst K
   exact at_res2 rfl (res_cell (c:=c_api_Item) (y:=zv10) rfl .z lw isAgg33 sizeOf33 (.inl rfl)) (res_tmp rfl) (fun w1 hw=>⟨Z_,s_,zv9,hM_,rfl,hN180,hw.pop⟩)
  refine cf h179 ?_
  refine at_skip ?_
  refine bm ?_
  refine qs (sr (fa 1 underlying98 rfl sizeOf96 ?_))
  refine aw (r_load_cell isAgg96 rfl (fun w1 hw=>cells_get (hw.ok (Upd.mem .z)) 1 _ rfl)) ?_
  refine aw (r_len_sl underlying96 rfl) ?_
  refine am (qn (dz (wq [41,40,39,5,4,2] ?_)))
  refine tn ?_
  refine qb ?_
  refine wq [41,40,39,5,4,2] ?_
  refine at_loop ?_
  refine at_round ?_
  refine sr (aw xl ?_)
  refine at_fix (g:=42) rfl (show (decide (0<1))=true from by decide) ?_
  refine nwq [42,41,40,39,5,4,2] ?_
  refine qs ?_
  refine ct rfl ?_
  refine sn (qs ?_)
  refine qb ?_
  refine sr (am ?_)
  refine aw (r_idx underlying96 sizeOf104 rfl rfl (by decide) rfl) ?_
  refine aw (r_load_agg (l:=(zl6 b176)) isAgg104 sizeOf104 rfl rfl (fun w1 hw=>cells_mid (pre:=[]) (suf:=[]) (hw.ok (Upd.mem .z)) rfl rfl)) ?_
  refine al (cs:=zl21) zeroValue104 ?_
  intro b181
  refine aa ?_
  refine sa 3 ((zl6 b176)) .z rfl rfl sizeOf104 rfl rfl rfl ?_
  refine nt (qs (wq [41,40,39,9,8,5,4,2] ?_))
  obtain ⟨h182,hF⟩:=gd hF
  refine at_pure (φ:=∃ b o,p4=some ⟨b,o,none⟩) (fun _ hw=>row_ptr (hw.own (.s (.s (.s (.s .z))))).row h182) ?_
  rintro ⟨b184,o185,hp183⟩
  refine at_invT [.q 46 (fun g186=>.pointer (some ⟨b181,0+1,none⟩)) [] 0 0,.q 47 (fun g186=>.func (.func 123) #[] #[.pointer (some ⟨b176,0,none⟩)]) [0] 0 0,.q 48 (fun g186=>.slice p4 t3.length c5) [] 0 0,.q 49 (fun g186=>.int .i64 0) [] 0 0,.q 50 (fun g186=>.int .i64 (wr .i64 (0+1))) [3] 0 0,.q 51 (fun g186=>.pointer (some ⟨b184,o185+Int.toNat (wr .i64 (0+1))*1,none⟩)) [2,4] 0 0,.q 52 (fun g186=>.string (lget t3 (wr .i64 (0+1)))) [5] 0 0] (fun g186 s=>match s with | _=>(Wd w0 (cellsE b181 (zl6 b176) 104::cellsE b177 (zl6 b176) 104::cellsE b176 zl22 133::cellsE b11 (Cd.cs c_api_Item (zv9,{ zv8 with f_Kind:=t10 })) 33::rowE cStr 9 p4 c5 t3::cellsE b1 (Cd.cs c_api_Item zv10) 33::frzE w0 Z_ s_::G_))) 0 7 (by kernel_rfl) (by kernel_rfl) (by kernel_rfl) (by kernel_rfl) (by kernel_rfl) (by kernel_rfl) ⟨fun _ _ _=>rfl,fun _ _ _=>rfl,fun _ _ _=>rfl,fun _ _ _=>rfl,fun _ _ _=>rfl,fun _ _ _=>rfl,fun _ _ _=>rfl,trivial⟩ (by kernel_rfl) (fun w_ h=>⟨fun _=>g3 0 none 0 none w_,h.drew⟩) ⟨?_,?_,?_,?_,?_,?_,?_,trivial⟩ ?_
  ·intro Lx g186 s K hl hh k
   show At 60 ((2,_)::(4,_)::(5,_)::(8,_)::(9,_)::(39,_)::(40,_)::(41,_)::Lx) _ _
   refine fa 1 underlying104 rfl sizeOf101 ?_
   exact at_nil k
  ·intro Lx g186 s K hl hh k
   show At 60 ((46,_)::(2,_)::(4,_)::(5,_)::(8,_)::(9,_)::(39,_)::(40,_)::(41,_)::Lx) _ _
   obtain rfl:s=0:=by omega
   refine aw (r_load_cell isAgg101 rfl (fun w1 hw=>cells_get (hw.ok (Upd.mem .z)) 1 _ rfl)) ?_
   exact at_nil k
  ·intro Lx g186 s K hl hh k
   show At 60 ((2,_)::(4,_)::(5,_)::(8,_)::(9,_)::(39,_)::(40,_)::(41,_)::Lx) _ _
   refine am ?_
   exact at_nil k
  ·intro Lx g186 s K hl hh k
   show At 60 ((2,_)::(4,_)::(5,_)::(8,_)::(9,_)::(39,_)::(40,_)::(41,_)::Lx) _ _
   refine am ?_
   exact at_nil k
  ·intro Lx g186 s K hl hh k
   show At 60 ((49,_)::(2,_)::(4,_)::(5,_)::(8,_)::(9,_)::(39,_)::(40,_)::(41,_)::Lx) _ _
   refine aw xa ?_
   exact at_nil k
  ·intro Lx g186 s K hl hh k
   show At 60 ((48,_)::(50,_)::(2,_)::(4,_)::(5,_)::(8,_)::(9,_)::(39,_)::(40,_)::(41,_)::Lx) _ _
   refine aw (r_idx underlying38 sizeOf9 rfl rfl h182 hp183) ?_
   exact at_nil k
  ·intro Lx g186 s K hl hh k
   show At 60 ((51,_)::(2,_)::(4,_)::(5,_)::(8,_)::(9,_)::(39,_)::(40,_)::(41,_)::Lx) _ _
   obtain rfl:s=0:=by omega
   refine aw (r_load_cell isAgg9 rfl (fun _ hw=>row_cell0 (W:=fun w1=>w1=_) (fun w1 h=>by subst h;exact Below.refl _ _) (hw.own (.s (.s (.s (.s .z))))).row h182 hp183 rfl _ rfl)) ?_
   exact at_nil k
  intro g186
  show At 60 [(46,_),(47,_),(48,_),(49,_),(50,_),(51,_),(52,_),(2,_),(4,_),(5,_),(8,_),(9,_),(39,_),(40,_),(41,_)] _ _
  refine at_calleeC (caps:=[.pointer (some ⟨b176,0,none⟩)]) rfl ?_
  refine at_callI func123 rfl (by kernel_rfl) rfl rfl rfl rfl ?_
  refine dz (sr (aa (ns (am ?_))))
  obtain ⟨t187,ht187,hF⟩:=bM hF
  refine cB func111 rfl (fun w hw=>decimal_Read_ok _ _ _ ht187 w (hg_strconv_ErrRange.on hw.below) (hg_strconv_ErrSyntax.on hw.below)) ?_
  refine am ?_
  refine aw xe (aw xe (aa (aa (nwx [7,6,2,0] ?_))))
  refine aw (r_load_cell isAgg133 rfl (fun w1 hw=>cells_get (hw.ok (Upd.mem (.s .z))) 0 _ rfl)) ?_
  refine am ?_
  refine at_callee rfl ?_
  refine at_callI func76 rfl (by kernel_rfl) rfl rfl rfl rfl ?_
  refine sr (aa (ns (am ?_)))
  refine aw (r_nilCheck rfl) ?_
  refine fa 54 underlying33 rfl sizeOf30 (aa (nwq [2] ?_))
  refine qt ?_
  refine at_retI1 rfl rfl ?_
  refine am ?_
  refine aw (r_conv underlying31 underlying30 rfl) ?_
  refine aw (r_nilCheck rfl) ?_
  refine at_store (c:=(cInt .u32)) (z:=wr .u32 t187.1) (.s (.s .z)) (c_api_Item_f_Local zv9 ({ zv8 with f_Kind:=t10 })) sizeOf30 rfl rfl rfl ?_
  refine ns (am (aa (nwq [5] ?_)))
  refine qt ?_
  refine at_retI1 rfl rfl ?_
  refine aa (ns (am (aw xn (nwq [55,41,40,39,10,5,4,2] ?_))))
  obtain ⟨h188,hF⟩|⟨h188,hF⟩:=oi hF
  ·refine ct h188 ?_
   refine sr ?_
   refine aw (r_build_struct (zs:=Cd.cs c_api_Item zv10) (cs:=Cd.cs c_api_Item zv10) underlying33 zeroValue33 rfl (places_api_Item_33) rfl rfl) ?_
   refine am ?_
   refine at_store (c:=c_api_Item) (z:=zv10) (.s (.s (.s (.s .z)))) lw sizeOf33 rfl rfl rfl ?_
   refine aa (qn (dz (dz (dz (dz (wq [3,2] ?_))))))
   refine tn (qt ?_)
   refine br (tr (tr (br (tr ?_))))
   have hN189:NK_api_Item (KZ w0 Z_) s_ zv10:=⟨RowK.nil ..,RowK.nil ..⟩
   have K:=os hF
   subst K
   exact at_res2 rfl (res_cell (c:=c_api_Item) (y:=zv10) rfl .z lw isAgg33 sizeOf33 (.inl rfl)) (res_tmp rfl) (fun w1 hw=>⟨Z_,s_,zv9,hM_,rfl,hN189,hw.pop⟩)
  refine cf h188 ?_
  refine at_skip ?_
  refine bm ?_
  refine qr (aw xa ?_)
  refine at_ov (t:=58) rfl (show Value.int .i64 (wr .i64 (0+1))=.int .i64 1 from by rfl) ?_
  refine am (nt (wq [41,40,39,5,4,2] ?_))
  refine at_round ?_
  refine sr (aw xl ?_)
  refine at_fix (g:=42) rfl (show (decide (1<1))=false from by decide) ?_
  refine nwq [42,41,40,39,5,4,2] ?_
  refine qs ?_
  refine cf rfl ?_
  refine at_exit ?_
  refine te (te ?_)
  refine at_blk_same ?_
  refine dz (dz ?_)
  refine at_drop (H:=_) (.s .z) ?_
  refine tn (sr ?_)
  refine aw (r_load_aggc (c:=c_api_Item) (z:=(zv9,{ { zv8 with f_Kind:=t10 } with f_Local:=wr .u32 t187.1 })) isAgg33 sizeOf33 rfl (lens_cell .z lw)) ?_
  refine at_store (c:=c_api_Item) (z:=(zv9,{ { zv8 with f_Kind:=t10 } with f_Local:=wr .u32 t187.1 })) (.s .z) lw sizeOf33 rfl rfl rfl ?_
  refine aa (qn (dz (wq [3,2] ?_)))
  refine tn (qt ?_)
  have hN190:NK_api_Item (KZ w0 Z_) s_ (zv9,{ { zv8 with f_Kind:=t10 } with f_Local:=wr .u32 t187.1 }):=⟨RowK.nil ..,RowK.nil ..⟩
  have K:=os hF
  subst K
  exact at_res2 rfl (res_cell (c:=c_api_Item) (y:=(zv9,{ { zv8 with f_Kind:=t10 } with f_Local:=wr .u32 t187.1 })) rfl .z lw isAgg33 sizeOf33 (.inl rfl)) (res_tmp rfl) (fun w1 hw=>⟨Z_,s_,zv9,hM_,rfl,hN190,hw.pop⟩)
 skip
 refine script_shapeOf_in6 rfl rfl h12 h31 h50 h86 h131 h175 ?_
 intro _
 refine am ?_
 refine aw xe (aw xe ?_)
 refine al (cs:=zl20) zeroValue98 ?_
 intro b191
 refine sa 2 (zl20) .z rfl rfl sizeOf98 rfl rfl rfl ?_
 refine aa (nwq [7,6,5,4,2] ?_)
 refine qs ?_
 refine qb ?_
 refine sr (am ?_)
 refine aw (r_not rfl) ?_
 refine aa (nwq [25,6,5,4,2] ?_)
 refine ct rfl ?_
 refine sr ?_
 refine aw (r_build_struct (zs:=Cd.cs c_api_Item zv10) (cs:=Cd.cs c_api_Item zv10) underlying33 zeroValue33 rfl (places_api_Item_33) rfl rfl) ?_
 refine at_store (c:=c_api_Item) (z:=zv10) (.s (.s (.s .z))) lw sizeOf33 rfl rfl rfl ?_
 refine aa (qn (dz (dz (dz (wq [3,2] ?_)))))
 refine tn (qt ?_)
 refine br (tr ?_)
 have hN192:NK_api_Item (KZ w0 Z_) s_ zv10:=⟨RowK.nil ..,RowK.nil ..⟩
 have K:=os hF
 subst K
 exact at_res2 rfl (res_cell (c:=c_api_Item) (y:=zv10) rfl .z lw isAgg33 sizeOf33 (.inl rfl)) (res_tmp rfl) (fun w1 hw=>⟨Z_,s_,zv9,hM_,rfl,hN192,hw.pop⟩)
def crawlwayref50_Right(x0:S_api_Item):Option (Bool) :=
 if (x0.f_Kind==1)=true then (crawlwayref50_Same ({ { zv8 with f_Kind:=x0.f_Kind } with f_Bytes:=x0.f_Bytes }) x0>>=fun t4=>if t4=true then (if x0.f_Ok=true then (some true) else (some ((x0.f_Result.length:Int)==0))) else (some false)) else (if (x0.f_Kind==2)=true then (crawlwayref50_Same ({ { zv8 with f_Kind:=x0.f_Kind } with f_Bytes:=x0.f_Bytes }) x0>>=fun t8=>if t8=true then (if x0.f_Ok=true then (some true) else (some ((x0.f_Result.length:Int)==0))) else (some false)) else (if (x0.f_Kind==3)=true then (crawlwayref50_Same ({ { { { zv8 with f_Kind:=x0.f_Kind } with f_Bytes:=x0.f_Bytes } with f_Result:=x0.f_Result } with f_Ok:=x0.f_Ok }) x0>>=fun t12=>if t12=true then (if x0.f_Ok=true then (some true) else (some ((x0.f_Result.length:Int)==0))) else (some false)) else (if (x0.f_Kind==4)=true then (crawlwayref12_Right x0.f_From>>=fun t16=>if (!t16)=true then (some false) else (crawlwayref50_Same ({ { { { { zv8 with f_Kind:=x0.f_Kind } with f_Bytes:=x0.f_Bytes } with f_From:=x0.f_From } with f_Result:=x0.f_Result } with f_Ok:=x0.f_Ok }) x0>>=fun t18=>if t18=true then (if x0.f_Ok=true then (some true) else (some ((x0.f_Result.length:Int)==0))) else (some false))) else (if (x0.f_Kind==5)=true then (crawlwayref50_Same ({ { { { { zv8 with f_Kind:=x0.f_Kind } with f_Key:=x0.f_Key } with f_Local:=x0.f_Local } with f_Remote:=x0.f_Remote } with f_Next:=x0.f_Next }) x0>>=fun t22=>if t22=true then (if x0.f_Ok=true then (some true) else (some ((x0.f_Result.length:Int)==0))) else (some false)) else (if (x0.f_Kind==6)=true then (crawlwayref50_Same ({ { zv8 with f_Kind:=x0.f_Kind } with f_Local:=x0.f_Local }) x0>>=fun t26=>if t26=true then (if x0.f_Ok=true then (some true) else (some ((x0.f_Result.length:Int)==0))) else (some false)) else (some false))))))
theorem crawlwayref50_Right_ok(g0_:G_api_Item)(x0:S_api_Item)(r:Bool)(hF:crawlwayref50_Right x0=some r)(w:World)(hn0:N_api_Item w (g0_,x0)) :
    Calls Tryz.prog 22 #[.agg (Cd.cs c_api_Item (g0_,x0)).toArray] w (fun e w'=>e=.returned (.bool r)∧Below w.heap.size w w'):=by
 unfold crawlwayref50_Right at hF
 refine ce (l:=[.agg (Cd.cs c_api_Item (g0_,x0)).toArray]) func22 rfl rfl ?_
 refine at_start ?_
 refine at_frz0 ?_
 intro Z_ s_ hB_
 have hz0:=NK_api_Item.mono (NK_api_Item.of hn0) hB_
 refine sr ?_
 refine at_box (cs:=Cd.cs c_api_Item (g0_,x0)) rfl rfl rfl ?_
 intro b1
 refine aa (ns ?_)
 refine al (cs:=Cd.cs c_api_Item zv10) zeroValue33 ?_
 intro b2
 refine ns (fa 0 underlying33 rfl sizeOf3 ?_)
 refine aw (r_load_cell isAgg3 rfl (lens_cell0 (c:=(cInt .i64)) (y:=x0.f_Kind) (.s .z) (c_api_Item_f_Kind g0_ x0) rfl)) ?_
 refine fa 0 underlying33 rfl sizeOf3 ?_
 refine at_store (c:=(cInt .i64)) (z:=x0.f_Kind) .z (c_api_Item_f_Kind zv9 zv8) sizeOf3 rfl rfl rfl ?_
 refine nt (qs (sr (fa 0 underlying33 rfl sizeOf3 ?_)))
 refine aw (r_load_cell isAgg3 rfl (lens_cell0 (c:=(cInt .i64)) (y:=x0.f_Kind) (.s .z) (c_api_Item_f_Kind g0_ x0) rfl)) ?_
 refine nwq [8,3,1] ?_
 refine qb ?_
 refine qs (sr (aw xq (aa (nwq [9,8,3,1] ?_))))
 obtain ⟨h3,hF⟩|⟨h3,hF⟩:=oi hF
 ·refine ct h3 ?_
  refine fx 9 h3 ?_
  refine sn ?_
  refine ct rfl ?_
  refine qr (fa 1 underlying33 rfl sizeOf22 ?_)
  refine aw (r_load_cell isAgg22 rfl (lens_cell0 (c:=cHd) (y:=⟨g0_.1.1,List.length x0.f_Bytes,g0_.1.2⟩) (.s .z) (c_api_Item_f_Bytes g0_ x0) rfl)) ?_
  refine fa 1 underlying33 rfl sizeOf22 ?_
  refine at_store (c:=cSv Int) (z:=((g0_.1.1,g0_.1.2),x0.f_Bytes)) .z (c_api_Item_f_Bytes_sv zv9 ({ zv8 with f_Kind:=x0.f_Kind })) sizeOf22 rfl rfl rfl ?_
  refine qn (wq [3,1] ?_)
  refine bm ?_
  refine sr ?_
  refine aw (r_load_aggc (c:=c_api_Item) (z:=(((g0_.1.1,g0_.1.2),zv6),{ { zv8 with f_Kind:=x0.f_Kind } with f_Bytes:=x0.f_Bytes })) isAgg33 sizeOf33 rfl (lens_cell .z lw)) ?_
  refine aw (r_load_aggc (c:=c_api_Item) (z:=(g0_,x0)) isAgg33 sizeOf33 rfl (lens_cell (.s .z) lw)) ?_
  obtain ⟨t4,ht4,hF⟩:=bM hF
  refine cB func13 rfl (fun w hw=>crawlwayref50_Same_ok _ _ _ _ _ ht4 w ⟨(RowK.row (RowK.mono hz0.1 (frz_mono (.s (.s .z)) hw))),(Row.nil ..)⟩ (NK_api_Item.n (NK_api_Item.mono hz0 (frz_mono (.s (.s .z)) hw)))) ?_
  refine am ?_
  obtain ⟨h5,hF⟩|⟨h5,hF⟩:=oi hF
  ·refine fx 66 h5 ?_
   refine gy ?_
   refine fa 21 underlying33 rfl sizeOf4 ?_
   refine gy ?_
   refine aw (r_load_cell isAgg4 rfl (lens_cell0 (c:=cBool) (y:=x0.f_Ok) (.s .z) (c_api_Item_f_Ok g0_ x0) rfl)) ?_
   refine gy ?_
   refine am ?_
   obtain ⟨h6,hF⟩|⟨h6,hF⟩:=oi hF
   ·refine fx 69 h6 ?_
    refine gn ?_
    refine gn ?_
    refine gn ?_
    refine gn ?_
    refine gy ?_
    refine aw xp (aw xp (aa (qn (dz (dz (wq [2] ?_))))))
    refine tn (qt ?_)
    have K:=os hF
    subst K
    exact r1 wb
   refine fx 69 h6 ?_
   refine gy ?_
   refine fa 20 underlying33 rfl sizeOf22 ?_
   refine gy ?_
   refine aw (r_load_cell isAgg22 rfl (lens_cell0 (c:=cHd) (y:=⟨g0_.2.1,List.length x0.f_Result,g0_.2.2⟩) (.s .z) (c_api_Item_f_Result g0_ x0) rfl)) ?_
   refine gy ?_
   refine aw (r_len_sl underlying22 rfl) ?_
   refine gy ?_
   refine aw xq ?_
   refine gy ?_
   refine aw xp (aw xp (aa (qn (dz (dz (wq [2] ?_))))))
   refine tn (qt ?_)
   have K:=os hF
   subst K
   exact r1 wb
  refine fx 66 h5 ?_
  refine gn ?_
  refine gn ?_
  refine gn ?_
  refine at_guard_undef rfl rfl rfl rfl ?_
  refine at_guard_undef rfl rfl rfl rfl ?_
  refine at_guard_undef rfl rfl rfl rfl ?_
  refine at_guard_undef rfl rfl rfl rfl ?_
  refine gn ?_
  refine aw xp (aa (qn (dz (dz (wq [2] ?_)))))
  refine tn (qt ?_)
  have K:=os hF
  subst K
  exact r1 wb
 refine cf h3 ?_
 refine qr (aw xq (aa (nwq [9,8,3,1] ?_)))
 obtain ⟨h7,hF⟩|⟨h7,hF⟩:=oi hF
 ·refine ct h7 ?_
  refine qr (fa 1 underlying33 rfl sizeOf22 ?_)
  refine aw (r_load_cell isAgg22 rfl (lens_cell0 (c:=cHd) (y:=⟨g0_.1.1,List.length x0.f_Bytes,g0_.1.2⟩) (.s .z) (c_api_Item_f_Bytes g0_ x0) rfl)) ?_
  refine fa 1 underlying33 rfl sizeOf22 ?_
  refine at_store (c:=cSv Int) (z:=((g0_.1.1,g0_.1.2),x0.f_Bytes)) .z (c_api_Item_f_Bytes_sv zv9 ({ zv8 with f_Kind:=x0.f_Kind })) sizeOf22 rfl rfl rfl ?_
  refine qn (wq [3,1] ?_)
  refine bm ?_
  refine sr ?_
  refine aw (r_load_aggc (c:=c_api_Item) (z:=(((g0_.1.1,g0_.1.2),zv6),{ { zv8 with f_Kind:=x0.f_Kind } with f_Bytes:=x0.f_Bytes })) isAgg33 sizeOf33 rfl (lens_cell .z lw)) ?_
  refine aw (r_load_aggc (c:=c_api_Item) (z:=(g0_,x0)) isAgg33 sizeOf33 rfl (lens_cell (.s .z) lw)) ?_
  obtain ⟨t8,ht8,hF⟩:=bM hF
  refine cB func13 rfl (fun w hw=>crawlwayref50_Same_ok _ _ _ _ _ ht8 w ⟨(RowK.row (RowK.mono hz0.1 (frz_mono (.s (.s .z)) hw))),(Row.nil ..)⟩ (NK_api_Item.n (NK_api_Item.mono hz0 (frz_mono (.s (.s .z)) hw)))) ?_
  refine am ?_
  obtain ⟨h9,hF⟩|⟨h9,hF⟩:=oi hF
  ·refine fx 66 h9 ?_
   refine gy ?_
   refine fa 21 underlying33 rfl sizeOf4 ?_
   refine gy ?_
   refine aw (r_load_cell isAgg4 rfl (lens_cell0 (c:=cBool) (y:=x0.f_Ok) (.s .z) (c_api_Item_f_Ok g0_ x0) rfl)) ?_
   refine gy ?_
   refine am ?_
   obtain ⟨h10,hF⟩|⟨h10,hF⟩:=oi hF
   ·refine fx 69 h10 ?_
    refine gn ?_
    refine gn ?_
    refine gn ?_
    refine gn ?_
    refine gy ?_
    refine aw xp (aw xp (aa (qn (dz (dz (wq [2] ?_))))))
    refine tn (qt ?_)
    have K:=os hF
    subst K
    exact r1 wb
   refine fx 69 h10 ?_
   refine gy ?_
   refine fa 20 underlying33 rfl sizeOf22 ?_
   refine gy ?_
   refine aw (r_load_cell isAgg22 rfl (lens_cell0 (c:=cHd) (y:=⟨g0_.2.1,List.length x0.f_Result,g0_.2.2⟩) (.s .z) (c_api_Item_f_Result g0_ x0) rfl)) ?_
   refine gy ?_
   refine aw (r_len_sl underlying22 rfl) ?_
   refine gy ?_
   refine aw xq ?_
   refine gy ?_
   refine aw xp (aw xp (aa (qn (dz (dz (wq [2] ?_))))))
   refine tn (qt ?_)
   have K:=os hF
   subst K
   exact r1 wb
  refine fx 66 h9 ?_
  refine gn ?_
  refine gn ?_
  refine gn ?_
  refine at_guard_undef rfl rfl rfl rfl ?_
  refine at_guard_undef rfl rfl rfl rfl ?_
  refine at_guard_undef rfl rfl rfl rfl ?_
  refine at_guard_undef rfl rfl rfl rfl ?_
  refine gn ?_
  refine aw xp (aa (qn (dz (dz (wq [2] ?_)))))
  refine tn (qt ?_)
  have K:=os hF
  subst K
  exact r1 wb
 refine cf h7 ?_
 refine sr (aw xq (aa (nwq [15,8,3,1] ?_)))
 obtain ⟨h11,hF⟩|⟨h11,hF⟩:=oi hF
 ·refine ct h11 ?_
  refine sr (fa 1 underlying33 rfl sizeOf22 ?_)
  refine aw (r_load_cell isAgg22 rfl (lens_cell0 (c:=cHd) (y:=⟨g0_.1.1,List.length x0.f_Bytes,g0_.1.2⟩) (.s .z) (c_api_Item_f_Bytes g0_ x0) rfl)) ?_
  refine fa 1 underlying33 rfl sizeOf22 ?_
  refine at_store (c:=cSv Int) (z:=((g0_.1.1,g0_.1.2),x0.f_Bytes)) .z (c_api_Item_f_Bytes_sv zv9 ({ zv8 with f_Kind:=x0.f_Kind })) sizeOf22 rfl rfl rfl ?_
  refine ns (fa 20 underlying33 rfl sizeOf22 ?_)
  refine aw (r_load_cell isAgg22 rfl (lens_cell0 (c:=cHd) (y:=⟨g0_.2.1,List.length x0.f_Result,g0_.2.2⟩) (.s .z) (c_api_Item_f_Result g0_ x0) rfl)) ?_
  refine fa 20 underlying33 rfl sizeOf22 ?_
  refine at_store (c:=cSv Int) (z:=((g0_.2.1,g0_.2.2),x0.f_Result)) .z (c_api_Item_f_Result_sv ((g0_.1.1,g0_.1.2),zv6) ({ { zv8 with f_Kind:=x0.f_Kind } with f_Bytes:=x0.f_Bytes })) sizeOf22 rfl rfl rfl ?_
  refine nt (qr (fa 21 underlying33 rfl sizeOf4 ?_))
  refine aw (r_load_cell isAgg4 rfl (lens_cell0 (c:=cBool) (y:=x0.f_Ok) (.s .z) (c_api_Item_f_Ok g0_ x0) rfl)) ?_
  refine fa 21 underlying33 rfl sizeOf4 ?_
  refine at_store (c:=cBool) (z:=x0.f_Ok) .z (c_api_Item_f_Ok ((g0_.1.1,g0_.1.2),(g0_.2.1,g0_.2.2)) ({ { { zv8 with f_Kind:=x0.f_Kind } with f_Bytes:=x0.f_Bytes } with f_Result:=x0.f_Result })) sizeOf4 rfl rfl rfl ?_
  refine qn (wq [3,1] ?_)
  refine bm ?_
  refine sr ?_
  refine aw (r_load_aggc (c:=c_api_Item) (z:=(((g0_.1.1,g0_.1.2),(g0_.2.1,g0_.2.2)),{ { { { zv8 with f_Kind:=x0.f_Kind } with f_Bytes:=x0.f_Bytes } with f_Result:=x0.f_Result } with f_Ok:=x0.f_Ok })) isAgg33 sizeOf33 rfl (lens_cell .z lw)) ?_
  refine aw (r_load_aggc (c:=c_api_Item) (z:=(g0_,x0)) isAgg33 sizeOf33 rfl (lens_cell (.s .z) lw)) ?_
  obtain ⟨t12,ht12,hF⟩:=bM hF
  refine cB func13 rfl (fun w hw=>crawlwayref50_Same_ok _ _ _ _ _ ht12 w ⟨(RowK.row (RowK.mono hz0.1 (frz_mono (.s (.s .z)) hw))),(RowK.row (RowK.mono hz0.2 (frz_mono (.s (.s .z)) hw)))⟩ (NK_api_Item.n (NK_api_Item.mono hz0 (frz_mono (.s (.s .z)) hw)))) ?_
  refine am ?_
  obtain ⟨h13,hF⟩|⟨h13,hF⟩:=oi hF
  ·refine fx 66 h13 ?_
   refine gy ?_
   refine fa 21 underlying33 rfl sizeOf4 ?_
   refine gy ?_
   refine aw (r_load_cell isAgg4 rfl (lens_cell0 (c:=cBool) (y:=x0.f_Ok) (.s .z) (c_api_Item_f_Ok g0_ x0) rfl)) ?_
   refine gy ?_
   refine am ?_
   obtain ⟨h14,hF⟩|⟨h14,hF⟩:=oi hF
   ·refine fx 69 h14 ?_
    refine gn ?_
    refine gn ?_
    refine gn ?_
    refine gn ?_
    refine gy ?_
    refine aw xp (aw xp (aa (qn (dz (dz (wq [2] ?_))))))
    refine tn (qt ?_)
    have K:=os hF
    subst K
    exact r1 wb
   refine fx 69 h14 ?_
   refine gy ?_
   refine fa 20 underlying33 rfl sizeOf22 ?_
   refine gy ?_
   refine aw (r_load_cell isAgg22 rfl (lens_cell0 (c:=cHd) (y:=⟨g0_.2.1,List.length x0.f_Result,g0_.2.2⟩) (.s .z) (c_api_Item_f_Result g0_ x0) rfl)) ?_
   refine gy ?_
   refine aw (r_len_sl underlying22 rfl) ?_
   refine gy ?_
   refine aw xq ?_
   refine gy ?_
   refine aw xp (aw xp (aa (qn (dz (dz (wq [2] ?_))))))
   refine tn (qt ?_)
   have K:=os hF
   subst K
   exact r1 wb
  refine fx 66 h13 ?_
  refine gn ?_
  refine gn ?_
  refine gn ?_
  refine at_guard_undef rfl rfl rfl rfl ?_
  refine at_guard_undef rfl rfl rfl rfl ?_
  refine at_guard_undef rfl rfl rfl rfl ?_
  refine at_guard_undef rfl rfl rfl rfl ?_
  refine gn ?_
  refine aw xp (aa (qn (dz (dz (wq [2] ?_)))))
  refine tn (qt ?_)
  have K:=os hF
  subst K
  exact r1 wb
 refine cf h11 ?_
 refine sr (aw xq (aa (nwq [26,8,3,1] ?_)))
 obtain ⟨h15,hF⟩|⟨h15,hF⟩:=oi hF
 ·refine ct h15 ?_
  refine qs (sr (fa 2 underlying33 rfl sizeOf27 ?_))
  refine aw (r_load_aggc (c:=c_api_Endpoint) (z:=x0.f_From) isAgg27 sizeOf27 rfl (lens_cell (.s .z) (c_api_Item_f_From g0_ x0))) ?_
  obtain ⟨t16,ht16,hF⟩:=bM hF
  refine cB func45 rfl (fun w hw=>crawlwayref12_Right_ok _ _ ht16 w) ?_
  refine aw (r_not rfl) ?_
  refine nwq [31,3,1] ?_
  obtain ⟨h17,hF⟩|⟨h17,hF⟩:=oi hF
  ·refine ct h17 ?_
   refine sr (aa (qn (dz (dz (wq [2] ?_)))))
   refine tn (qt ?_)
   refine tr (br (tr ?_))
   have K:=os hF
   subst K
   exact r1 wb
  refine cf h17 ?_
  refine sns (fa 1 underlying33 rfl sizeOf22 ?_)
  refine aw (r_load_cell isAgg22 rfl (lens_cell0 (c:=cHd) (y:=⟨g0_.1.1,List.length x0.f_Bytes,g0_.1.2⟩) (.s .z) (c_api_Item_f_Bytes g0_ x0) rfl)) ?_
  refine fa 1 underlying33 rfl sizeOf22 ?_
  refine at_store (c:=cSv Int) (z:=((g0_.1.1,g0_.1.2),x0.f_Bytes)) .z (c_api_Item_f_Bytes_sv zv9 ({ zv8 with f_Kind:=x0.f_Kind })) sizeOf22 rfl rfl rfl ?_
  refine ns (fa 2 underlying33 rfl sizeOf27 ?_)
  refine aw (r_load_aggc (c:=c_api_Endpoint) (z:=x0.f_From) isAgg27 sizeOf27 rfl (lens_cell (.s .z) (c_api_Item_f_From g0_ x0))) ?_
  refine fa 2 underlying33 rfl sizeOf27 ?_
  refine at_store (c:=c_api_Endpoint) (z:=x0.f_From) .z (c_api_Item_f_From ((g0_.1.1,g0_.1.2),zv6) ({ { zv8 with f_Kind:=x0.f_Kind } with f_Bytes:=x0.f_Bytes })) sizeOf27 rfl rfl rfl ?_
  refine ns (fa 20 underlying33 rfl sizeOf22 ?_)
  refine aw (r_load_cell isAgg22 rfl (lens_cell0 (c:=cHd) (y:=⟨g0_.2.1,List.length x0.f_Result,g0_.2.2⟩) (.s .z) (c_api_Item_f_Result g0_ x0) rfl)) ?_
  refine fa 20 underlying33 rfl sizeOf22 ?_
  refine at_store (c:=cSv Int) (z:=((g0_.2.1,g0_.2.2),x0.f_Result)) .z (c_api_Item_f_Result_sv ((g0_.1.1,g0_.1.2),zv6) ({ { { zv8 with f_Kind:=x0.f_Kind } with f_Bytes:=x0.f_Bytes } with f_From:=x0.f_From })) sizeOf22 rfl rfl rfl ?_
  refine nt (qr (fa 21 underlying33 rfl sizeOf4 ?_))
  refine aw (r_load_cell isAgg4 rfl (lens_cell0 (c:=cBool) (y:=x0.f_Ok) (.s .z) (c_api_Item_f_Ok g0_ x0) rfl)) ?_
  refine fa 21 underlying33 rfl sizeOf4 ?_
  refine at_store (c:=cBool) (z:=x0.f_Ok) .z (c_api_Item_f_Ok ((g0_.1.1,g0_.1.2),(g0_.2.1,g0_.2.2)) ({ { { { zv8 with f_Kind:=x0.f_Kind } with f_Bytes:=x0.f_Bytes } with f_From:=x0.f_From } with f_Result:=x0.f_Result })) sizeOf4 rfl rfl rfl ?_
  refine qn (wq [3,1] ?_)
  refine bm ?_
  refine sr ?_
  refine aw (r_load_aggc (c:=c_api_Item) (z:=(((g0_.1.1,g0_.1.2),(g0_.2.1,g0_.2.2)),{ { { { { zv8 with f_Kind:=x0.f_Kind } with f_Bytes:=x0.f_Bytes } with f_From:=x0.f_From } with f_Result:=x0.f_Result } with f_Ok:=x0.f_Ok })) isAgg33 sizeOf33 rfl (lens_cell .z lw)) ?_
  refine aw (r_load_aggc (c:=c_api_Item) (z:=(g0_,x0)) isAgg33 sizeOf33 rfl (lens_cell (.s .z) lw)) ?_
  obtain ⟨t18,ht18,hF⟩:=bM hF
  refine cB func13 rfl (fun w hw=>crawlwayref50_Same_ok _ _ _ _ _ ht18 w ⟨(RowK.row (RowK.mono hz0.1 (frz_mono (.s (.s .z)) hw))),(RowK.row (RowK.mono hz0.2 (frz_mono (.s (.s .z)) hw)))⟩ (NK_api_Item.n (NK_api_Item.mono hz0 (frz_mono (.s (.s .z)) hw)))) ?_
  refine am ?_
  obtain ⟨h19,hF⟩|⟨h19,hF⟩:=oi hF
  ·refine fx 66 h19 ?_
   refine gy ?_
   refine fa 21 underlying33 rfl sizeOf4 ?_
   refine gy ?_
   refine aw (r_load_cell isAgg4 rfl (lens_cell0 (c:=cBool) (y:=x0.f_Ok) (.s .z) (c_api_Item_f_Ok g0_ x0) rfl)) ?_
   refine gy ?_
   refine am ?_
   obtain ⟨h20,hF⟩|⟨h20,hF⟩:=oi hF
   ·refine fx 69 h20 ?_
    refine gn ?_
    refine gn ?_
    refine gn ?_
    refine gn ?_
    refine gy ?_
    refine aw xp (aw xp (aa (qn (dz (dz (wq [2] ?_))))))
    refine tn (qt ?_)
    have K:=os hF
    subst K
    exact r1 wb
   refine fx 69 h20 ?_
   refine gy ?_
   refine fa 20 underlying33 rfl sizeOf22 ?_
   refine gy ?_
   refine aw (r_load_cell isAgg22 rfl (lens_cell0 (c:=cHd) (y:=⟨g0_.2.1,List.length x0.f_Result,g0_.2.2⟩) (.s .z) (c_api_Item_f_Result g0_ x0) rfl)) ?_
   refine gy ?_
   refine aw (r_len_sl underlying22 rfl) ?_
   refine gy ?_
   refine aw xq ?_
   refine gy ?_
   refine aw xp (aw xp (aa (qn (dz (dz (wq [2] ?_))))))
   refine tn (qt ?_)
   have K:=os hF
   subst K
   exact r1 wb
  refine fx 66 h19 ?_
  refine gn ?_
  refine gn ?_
  refine gn ?_
  refine at_guard_undef rfl rfl rfl rfl ?_
  refine at_guard_undef rfl rfl rfl rfl ?_
  refine at_guard_undef rfl rfl rfl rfl ?_
  refine at_guard_undef rfl rfl rfl rfl ?_
  refine gn ?_
  refine aw xp (aa (qn (dz (dz (wq [2] ?_)))))
  refine tn (qt ?_)
  have K:=os hF
  subst K
  exact r1 wb
 refine cf h15 ?_
 refine sr (aw xq (aa (nwq [44,8,3,1] ?_)))
 obtain ⟨h21,hF⟩|⟨h21,hF⟩:=oi hF
 ·refine ct h21 ?_
  refine sr (fa 22 underlying33 rfl sizeOf29 ?_)
  refine aw (r_load_aggc (c:=(cVec (cInt .u8) 32 (by decide))) (z:=x0.f_Key) isAgg29 sizeOf29 rfl (lens_cell (.s .z) (c_api_Item_f_Key g0_ x0))) ?_
  refine fa 22 underlying33 rfl sizeOf29 ?_
  refine at_store (c:=(cVec (cInt .u8) 32 (by decide))) (z:=x0.f_Key) .z (c_api_Item_f_Key zv9 ({ zv8 with f_Kind:=x0.f_Kind })) sizeOf29 rfl rfl rfl ?_
  refine ns (fa 54 underlying33 rfl sizeOf30 ?_)
  refine aw (r_load_cell isAgg30 rfl (lens_cell0 (c:=(cInt .u32)) (y:=x0.f_Local) (.s .z) (c_api_Item_f_Local g0_ x0) rfl)) ?_
  refine fa 54 underlying33 rfl sizeOf30 ?_
  refine at_store (c:=(cInt .u32)) (z:=x0.f_Local) .z (c_api_Item_f_Local zv9 ({ { zv8 with f_Kind:=x0.f_Kind } with f_Key:=x0.f_Key })) sizeOf30 rfl rfl rfl ?_
  refine ns (fa 55 underlying33 rfl sizeOf30 ?_)
  refine aw (r_load_cell isAgg30 rfl (lens_cell0 (c:=(cInt .u32)) (y:=x0.f_Remote) (.s .z) (c_api_Item_f_Remote g0_ x0) rfl)) ?_
  refine fa 55 underlying33 rfl sizeOf30 ?_
  refine at_store (c:=(cInt .u32)) (z:=x0.f_Remote) .z (c_api_Item_f_Remote zv9 ({ { { zv8 with f_Kind:=x0.f_Kind } with f_Key:=x0.f_Key } with f_Local:=x0.f_Local })) sizeOf30 rfl rfl rfl ?_
  refine nt (qr (fa 56 underlying33 rfl sizeOf31 ?_))
  refine aw (r_load_cell isAgg31 rfl (lens_cell0 (c:=(cInt .u64)) (y:=x0.f_Next) (.s .z) (c_api_Item_f_Next g0_ x0) rfl)) ?_
  refine fa 56 underlying33 rfl sizeOf31 ?_
  refine at_store (c:=(cInt .u64)) (z:=x0.f_Next) .z (c_api_Item_f_Next zv9 ({ { { { zv8 with f_Kind:=x0.f_Kind } with f_Key:=x0.f_Key } with f_Local:=x0.f_Local } with f_Remote:=x0.f_Remote })) sizeOf31 rfl rfl rfl ?_
  refine qn (wq [3,1] ?_)
  refine bm ?_
  refine sr ?_
  refine aw (r_load_aggc (c:=c_api_Item) (z:=(zv9,{ { { { { zv8 with f_Kind:=x0.f_Kind } with f_Key:=x0.f_Key } with f_Local:=x0.f_Local } with f_Remote:=x0.f_Remote } with f_Next:=x0.f_Next })) isAgg33 sizeOf33 rfl (lens_cell .z lw)) ?_
  refine aw (r_load_aggc (c:=c_api_Item) (z:=(g0_,x0)) isAgg33 sizeOf33 rfl (lens_cell (.s .z) lw)) ?_
  obtain ⟨t22,ht22,hF⟩:=bM hF
  refine cB func13 rfl (fun w hw=>crawlwayref50_Same_ok _ _ _ _ _ ht22 w ⟨(Row.nil ..),(Row.nil ..)⟩ (NK_api_Item.n (NK_api_Item.mono hz0 (frz_mono (.s (.s .z)) hw)))) ?_
  refine am ?_
  obtain ⟨h23,hF⟩|⟨h23,hF⟩:=oi hF
  ·refine fx 66 h23 ?_
   refine gy ?_
   refine fa 21 underlying33 rfl sizeOf4 ?_
   refine gy ?_
   refine aw (r_load_cell isAgg4 rfl (lens_cell0 (c:=cBool) (y:=x0.f_Ok) (.s .z) (c_api_Item_f_Ok g0_ x0) rfl)) ?_
   refine gy ?_
   refine am ?_
   obtain ⟨h24,hF⟩|⟨h24,hF⟩:=oi hF
   ·refine fx 69 h24 ?_
    refine gn ?_
    refine gn ?_
    refine gn ?_
    refine gn ?_
    refine gy ?_
    refine aw xp (aw xp (aa (qn (dz (dz (wq [2] ?_))))))
    refine tn (qt ?_)
    have K:=os hF
    subst K
    exact r1 wb
   refine fx 69 h24 ?_
   refine gy ?_
   refine fa 20 underlying33 rfl sizeOf22 ?_
   refine gy ?_
   refine aw (r_load_cell isAgg22 rfl (lens_cell0 (c:=cHd) (y:=⟨g0_.2.1,List.length x0.f_Result,g0_.2.2⟩) (.s .z) (c_api_Item_f_Result g0_ x0) rfl)) ?_
   refine gy ?_
   refine aw (r_len_sl underlying22 rfl) ?_
   refine gy ?_
   refine aw xq ?_
   refine gy ?_
   refine aw xp (aw xp (aa (qn (dz (dz (wq [2] ?_))))))
   refine tn (qt ?_)
   have K:=os hF
   subst K
   exact r1 wb
  refine fx 66 h23 ?_
  refine gn ?_
  refine gn ?_
  refine gn ?_
  refine at_guard_undef rfl rfl rfl rfl ?_
  refine at_guard_undef rfl rfl rfl rfl ?_
  refine at_guard_undef rfl rfl rfl rfl ?_
  refine at_guard_undef rfl rfl rfl rfl ?_
  refine gn ?_
  refine aw xp (aa (qn (dz (dz (wq [2] ?_)))))
  refine tn (qt ?_)
  have K:=os hF
  subst K
  exact r1 wb
 refine cf h21 ?_
 refine sr (aw xq (aa (nwq [58,3,1] ?_)))
 obtain ⟨h25,hF⟩|⟨h25,hF⟩:=oi hF
 ·refine ct h25 ?_
  refine qr (fa 54 underlying33 rfl sizeOf30 ?_)
  refine aw (r_load_cell isAgg30 rfl (lens_cell0 (c:=(cInt .u32)) (y:=x0.f_Local) (.s .z) (c_api_Item_f_Local g0_ x0) rfl)) ?_
  refine fa 54 underlying33 rfl sizeOf30 ?_
  refine at_store (c:=(cInt .u32)) (z:=x0.f_Local) .z (c_api_Item_f_Local zv9 ({ zv8 with f_Kind:=x0.f_Kind })) sizeOf30 rfl rfl rfl ?_
  refine qn (wq [3,1] ?_)
  refine bm ?_
  refine sr ?_
  refine aw (r_load_aggc (c:=c_api_Item) (z:=(zv9,{ { zv8 with f_Kind:=x0.f_Kind } with f_Local:=x0.f_Local })) isAgg33 sizeOf33 rfl (lens_cell .z lw)) ?_
  refine aw (r_load_aggc (c:=c_api_Item) (z:=(g0_,x0)) isAgg33 sizeOf33 rfl (lens_cell (.s .z) lw)) ?_
  obtain ⟨t26,ht26,hF⟩:=bM hF
  refine cB func13 rfl (fun w hw=>crawlwayref50_Same_ok _ _ _ _ _ ht26 w ⟨(Row.nil ..),(Row.nil ..)⟩ (NK_api_Item.n (NK_api_Item.mono hz0 (frz_mono (.s (.s .z)) hw)))) ?_
  refine am ?_
  obtain ⟨h27,hF⟩|⟨h27,hF⟩:=oi hF
  ·refine fx 66 h27 ?_
   refine gy ?_
   refine fa 21 underlying33 rfl sizeOf4 ?_
   refine gy ?_
   refine aw (r_load_cell isAgg4 rfl (lens_cell0 (c:=cBool) (y:=x0.f_Ok) (.s .z) (c_api_Item_f_Ok g0_ x0) rfl)) ?_
   refine gy ?_
   refine am ?_
   obtain ⟨h28,hF⟩|⟨h28,hF⟩:=oi hF
   ·refine fx 69 h28 ?_
    refine gn ?_
    refine gn ?_
    refine gn ?_
    refine gn ?_
    refine gy ?_
    refine aw xp (aw xp (aa (qn (dz (dz (wq [2] ?_))))))
    refine tn (qt ?_)
    have K:=os hF
    subst K
    exact r1 wb
   refine fx 69 h28 ?_
   refine gy ?_
   refine fa 20 underlying33 rfl sizeOf22 ?_
   refine gy ?_
   refine aw (r_load_cell isAgg22 rfl (lens_cell0 (c:=cHd) (y:=⟨g0_.2.1,List.length x0.f_Result,g0_.2.2⟩) (.s .z) (c_api_Item_f_Result g0_ x0) rfl)) ?_
   refine gy ?_
   refine aw (r_len_sl underlying22 rfl) ?_
   refine gy ?_
   refine aw xq ?_
   refine gy ?_
   refine aw xp (aw xp (aa (qn (dz (dz (wq [2] ?_))))))
   refine tn (qt ?_)
   have K:=os hF
   subst K
   exact r1 wb
  refine fx 66 h27 ?_
  refine gn ?_
  refine gn ?_
  refine gn ?_
  refine at_guard_undef rfl rfl rfl rfl ?_
  refine at_guard_undef rfl rfl rfl rfl ?_
  refine at_guard_undef rfl rfl rfl rfl ?_
  refine at_guard_undef rfl rfl rfl rfl ?_
  refine gn ?_
  refine aw xp (aa (qn (dz (dz (wq [2] ?_)))))
  refine tn (qt ?_)
  have K:=os hF
  subst K
  exact r1 wb
 refine cf h25 ?_
 refine sr (aa (qn (dz (dz (wq [2] ?_)))))
 refine tn (qt ?_)
 refine br (tr ?_)
 have K:=os hF
 subst K
 exact r1 wb
def crawlwayref50_Text(x0:S_api_Item):Option (ByteArray) :=
 if (x0.f_Kind==1)=true then (crawlwayref50_word x0.f_Bytes>>=fun t3=>if (⟨#[115,101,116,32]⟩:ByteArray).size+t3.size≤140737488355328 then some ((⟨#[115,101,116,32]⟩:ByteArray)++t3) else none) else (if (x0.f_Kind==2)=true then (crawlwayref50_word x0.f_Bytes>>=fun t6=>if (⟨#[108,111,97,100,32]⟩:ByteArray).size+t6.size≤140737488355328 then some ((⟨#[108,111,97,100,32]⟩:ByteArray)++t6) else none) else (if (x0.f_Kind==3)=true then (crawlwayref50_word x0.f_Bytes>>=fun t9=>if (⟨#[111,117,116,32]⟩:ByteArray).size+t9.size≤140737488355328 then if ((⟨#[111,117,116,32]⟩:ByteArray)++t9).size+(⟨#[32]⟩:ByteArray).size≤140737488355328 then crawlwayref50_answer x0>>=fun t12=>if (((⟨#[111,117,116,32]⟩:ByteArray)++t9)++(⟨#[32]⟩:ByteArray)).size+t12.size≤140737488355328 then some ((((⟨#[111,117,116,32]⟩:ByteArray)++t9)++(⟨#[32]⟩:ByteArray))++t12) else none else none else none) else (if (x0.f_Kind==4)=true then (crawlwayref12_Text x0.f_From>>=fun t15=>if (⟨#[105,110,32]⟩:ByteArray).size+t15.size≤140737488355328 then if ((⟨#[105,110,32]⟩:ByteArray)++t15).size+(⟨#[32]⟩:ByteArray).size≤140737488355328 then crawlwayref50_word x0.f_Bytes>>=fun t18=>if (((⟨#[105,110,32]⟩:ByteArray)++t15)++(⟨#[32]⟩:ByteArray)).size+t18.size≤140737488355328 then if ((((⟨#[105,110,32]⟩:ByteArray)++t15)++(⟨#[32]⟩:ByteArray))++t18).size+(⟨#[32]⟩:ByteArray).size≤140737488355328 then crawlwayref50_answer x0>>=fun t21=>if (((((⟨#[105,110,32]⟩:ByteArray)++t15)++(⟨#[32]⟩:ByteArray))++t18)++(⟨#[32]⟩:ByteArray)).size+t21.size≤140737488355328 then some ((((((⟨#[105,110,32]⟩:ByteArray)++t15)++(⟨#[32]⟩:ByteArray))++t18)++(⟨#[32]⟩:ByteArray))++t21) else none else none else none else none else none) else (if (x0.f_Kind==5)=true then (crawlwayref07_Bytes x0.f_Key>>=fun t24=>crawlwayref05_Encode t24>>=fun t27=>if (⟨#[105,110,115,116,97,108,108,32]⟩:ByteArray).size+t27.size≤140737488355328 then if ((⟨#[105,110,115,116,97,108,108,32]⟩:ByteArray)++t27).size+(⟨#[32]⟩:ByteArray).size≤140737488355328 then crawlwayref03_Text (wr .u64 x0.f_Local)>>=fun t30=>if (((⟨#[105,110,115,116,97,108,108,32]⟩:ByteArray)++t27)++(⟨#[32]⟩:ByteArray)).size+t30.size≤140737488355328 then if ((((⟨#[105,110,115,116,97,108,108,32]⟩:ByteArray)++t27)++(⟨#[32]⟩:ByteArray))++t30).size+(⟨#[32]⟩:ByteArray).size≤140737488355328 then crawlwayref03_Text (wr .u64 x0.f_Remote)>>=fun t33=>if (((((⟨#[105,110,115,116,97,108,108,32]⟩:ByteArray)++t27)++(⟨#[32]⟩:ByteArray))++t30)++(⟨#[32]⟩:ByteArray)).size+t33.size≤140737488355328 then if ((((((⟨#[105,110,115,116,97,108,108,32]⟩:ByteArray)++t27)++(⟨#[32]⟩:ByteArray))++t30)++(⟨#[32]⟩:ByteArray))++t33).size+(⟨#[32]⟩:ByteArray).size≤140737488355328 then crawlwayref03_Text x0.f_Next>>=fun t36=>if (((((((⟨#[105,110,115,116,97,108,108,32]⟩:ByteArray)++t27)++(⟨#[32]⟩:ByteArray))++t30)++(⟨#[32]⟩:ByteArray))++t33)++(⟨#[32]⟩:ByteArray)).size+t36.size≤140737488355328 then some ((((((((⟨#[105,110,115,116,97,108,108,32]⟩:ByteArray)++t27)++(⟨#[32]⟩:ByteArray))++t30)++(⟨#[32]⟩:ByteArray))++t33)++(⟨#[32]⟩:ByteArray))++t36) else none else none else none else none else none else none else none) else (crawlwayref03_Text (wr .u64 x0.f_Local)>>=fun t39=>if (⟨#[102,111,114,103,101,116,32]⟩:ByteArray).size+t39.size≤140737488355328 then some ((⟨#[102,111,114,103,101,116,32]⟩:ByteArray)++t39) else none)))))
set_option maxHeartbeats 3200000 in
theorem crawlwayref50_Text_ok(g0_:G_api_Item)(x0:S_api_Item)(r:ByteArray)(hF:crawlwayref50_Text x0=some r)(w:World)(hn0:N_api_Item w (g0_,x0)) :
    Calls Tryz.prog 26 #[.agg (Cd.cs c_api_Item (g0_,x0)).toArray] w (fun e w'=>e=.returned (.string r)∧Below w.heap.size w w'):=by
 unfold crawlwayref50_Text at hF
 refine ce (l:=[.agg (Cd.cs c_api_Item (g0_,x0)).toArray]) func26 rfl rfl ?_
 refine at_start ?_
 refine sr ?_
 refine at_box (cs:=Cd.cs c_api_Item (g0_,x0)) rfl rfl rfl ?_
 intro b1
 refine aa (nt (qs (sr (fa 0 underlying33 rfl sizeOf3 ?_))))
 refine aw (r_load_cell isAgg3 rfl (lens_cell0 (c:=(cInt .i64)) (y:=x0.f_Kind) .z (c_api_Item_f_Kind g0_ x0) rfl)) ?_
 refine nwq [4,1] ?_
 refine qb ?_
 refine sr (aw xq (aa (nwq [5,4,1] ?_)))
 obtain ⟨h2,hF⟩|⟨h2,hF⟩:=oi hF
 ·refine ct h2 ?_
  refine sr (fa 1 underlying33 rfl sizeOf22 ?_)
  refine aw (r_load_cell isAgg22 rfl (lens_cell0 (c:=cHd) (y:=⟨g0_.1.1,List.length x0.f_Bytes,g0_.1.2⟩) .z (c_api_Item_f_Bytes g0_ x0) rfl)) ?_
  obtain ⟨t3,ht3,hF⟩:=bM hF
  refine cB func50 rfl (fun w hw=>crawlwayref50_word_ok _ _ _ _ ht3 w ((hn0).1.below hw.below)) ?_
  obtain ⟨h4,hF⟩:=gd hF
  refine aw (r_concat rfl rfl h4) ?_
  refine aa (qn (dz (wq [2] ?_)))
  refine tn (qt ?_)
  refine br (tr ?_)
  have K:=os hF
  subst K
  exact r1 wb
 refine cf h2 ?_
 refine sr (aw xq (aa (nwq [11,4,1] ?_)))
 obtain ⟨h5,hF⟩|⟨h5,hF⟩:=oi hF
 ·refine ct h5 ?_
  refine sr (fa 1 underlying33 rfl sizeOf22 ?_)
  refine aw (r_load_cell isAgg22 rfl (lens_cell0 (c:=cHd) (y:=⟨g0_.1.1,List.length x0.f_Bytes,g0_.1.2⟩) .z (c_api_Item_f_Bytes g0_ x0) rfl)) ?_
  obtain ⟨t6,ht6,hF⟩:=bM hF
  refine cB func50 rfl (fun w hw=>crawlwayref50_word_ok _ _ _ _ ht6 w ((hn0).1.below hw.below)) ?_
  obtain ⟨h7,hF⟩:=gd hF
  refine aw (r_concat rfl rfl h7) ?_
  refine aa (qn (dz (wq [2] ?_)))
  refine tn (qt ?_)
  refine br (tr ?_)
  have K:=os hF
  subst K
  exact r1 wb
 refine cf h5 ?_
 refine sr (aw xq (aa (nwq [17,4,1] ?_)))
 obtain ⟨h8,hF⟩|⟨h8,hF⟩:=oi hF
 ·refine ct h8 ?_
  refine qs ?_
  refine at_draw (by kernel_rfl) (by kernel_rfl) (fun _ h=>h.drew) ?_
  refine atq_val rfl rfl rfl (r_fieldAddr (fo:=1) underlying33 rfl rfl (fun w=>⟨_,sizeOf22 w⟩) rfl) ?_
  refine atq_val rfl rfl rfl (r_load_cell isAgg22 rfl (lens_cell0 (c:=cHd) (y:=⟨g0_.1.1,List.length x0.f_Bytes,g0_.1.2⟩) .z (c_api_Item_f_Bytes g0_ x0) rfl)) ?_
  obtain ⟨t9,ht9,hF⟩:=bM hF
  refine atq_call func50 rfl (by kernel_rfl) rfl rfl (fun w hw=>(crawlwayref50_word_ok _ _ _ _ ht9 w ((hn0).1.below hw.below)).mono fun _ _ h=>⟨h.1,hw.call h.2⟩) ?_
  obtain ⟨h10,hF⟩:=gd hF
  refine atq_val rfl rfl rfl (r_concat rfl rfl h10) ?_
  obtain ⟨h11,hF⟩:=gd hF
  refine atq_val rfl rfl rfl (r_concat rfl rfl h11) ?_
  refine atq_val rfl rfl rfl (r_load_aggc (c:=c_api_Item) (z:=(g0_,x0)) isAgg33 sizeOf33 rfl (lens_cell .z lw)) ?_
  obtain ⟨t12,ht12,hF⟩:=bM hF
  refine atq_call func51 rfl (by kernel_rfl) rfl rfl (fun w hw=>(crawlwayref50_answer_ok _ _ _ ht12 w (N_api_Item.below hn0 hw.below)).mono fun _ _ h=>⟨h.1,hw.call h.2⟩) ?_
  obtain ⟨h13,hF⟩:=gd hF
  refine atq_val rfl rfl rfl (r_concat rfl rfl h13) ?_
  refine atq_val rfl rfl rfl (r_assign rfl) ?_
  refine atq_nil ?_
  refine dz (wq [2] ?_)
  refine tn (qt ?_)
  refine br (tr ?_)
  have K:=os hF
  subst K
  exact r1 wb
 refine cf h8 ?_
 refine sr (aw xq (aa (nwq [27,4,1] ?_)))
 obtain ⟨h14,hF⟩|⟨h14,hF⟩:=oi hF
 ·refine ct h14 ?_
  refine qs ?_
  refine at_draw (by kernel_rfl) (by kernel_rfl) (fun _ h=>h.drew) ?_
  refine atq_val rfl rfl rfl (r_fieldAddr (fo:=2) underlying33 rfl rfl (fun w=>⟨_,sizeOf27 w⟩) rfl) ?_
  refine atq_val rfl rfl rfl (r_load_aggc (c:=c_api_Endpoint) (z:=x0.f_From) isAgg27 sizeOf27 rfl (lens_cell .z (c_api_Item_f_From g0_ x0))) ?_
  obtain ⟨t15,ht15,hF⟩:=bM hF
  refine atq_call func52 rfl (by kernel_rfl) rfl rfl (fun w hw=>(crawlwayref12_Text_ok _ _ ht15 w).mono fun _ _ h=>⟨h.1,hw.call h.2⟩) ?_
  obtain ⟨h16,hF⟩:=gd hF
  refine atq_val rfl rfl rfl (r_concat rfl rfl h16) ?_
  obtain ⟨h17,hF⟩:=gd hF
  refine atq_val rfl rfl rfl (r_concat rfl rfl h17) ?_
  refine atq_val rfl rfl rfl (r_fieldAddr (fo:=1) underlying33 rfl rfl (fun w=>⟨_,sizeOf22 w⟩) rfl) ?_
  refine atq_val rfl rfl rfl (r_load_cell isAgg22 rfl (lens_cell0 (c:=cHd) (y:=⟨g0_.1.1,List.length x0.f_Bytes,g0_.1.2⟩) .z (c_api_Item_f_Bytes g0_ x0) rfl)) ?_
  obtain ⟨t18,ht18,hF⟩:=bM hF
  refine atq_call func50 rfl (by kernel_rfl) rfl rfl (fun w hw=>(crawlwayref50_word_ok _ _ _ _ ht18 w ((hn0).1.below hw.below)).mono fun _ _ h=>⟨h.1,hw.call h.2⟩) ?_
  obtain ⟨h19,hF⟩:=gd hF
  refine atq_val rfl rfl rfl (r_concat rfl rfl h19) ?_
  obtain ⟨h20,hF⟩:=gd hF
  refine atq_val rfl rfl rfl (r_concat rfl rfl h20) ?_
  refine atq_val rfl rfl rfl (r_load_aggc (c:=c_api_Item) (z:=(g0_,x0)) isAgg33 sizeOf33 rfl (lens_cell .z lw)) ?_
  obtain ⟨t21,ht21,hF⟩:=bM hF
  refine atq_call func51 rfl (by kernel_rfl) rfl rfl (fun w hw=>(crawlwayref50_answer_ok _ _ _ ht21 w (N_api_Item.below hn0 hw.below)).mono fun _ _ h=>⟨h.1,hw.call h.2⟩) ?_
  obtain ⟨h22,hF⟩:=gd hF
  refine atq_val rfl rfl rfl (r_concat rfl rfl h22) ?_
  refine atq_val rfl rfl rfl (r_assign rfl) ?_
  refine atq_nil ?_
  refine dz (wq [2] ?_)
  refine tn (qt ?_)
  refine br (tr ?_)
  have K:=os hF
  subst K
  exact r1 wb
 refine cf h14 ?_
 refine sr (aw xq (aa (nwq [42,1] ?_)))
 obtain ⟨h23,hF⟩|⟨h23,hF⟩:=oi hF
 ·refine ct h23 ?_
  refine qs (wq [1] ?_)
  obtain ⟨t24,ht24,hF⟩:=bM hF
  obtain ⟨t27,ht27,hF⟩:=bM hF
  obtain ⟨h28,hF⟩:=gd hF
  obtain ⟨h29,hF⟩:=gd hF
  obtain ⟨t30,ht30,hF⟩:=bM hF
  obtain ⟨h31,hF⟩:=gd hF
  obtain ⟨h32,hF⟩:=gd hF
  obtain ⟨t33,ht33,hF⟩:=bM hF
  obtain ⟨h34,hF⟩:=gd hF
  obtain ⟨h35,hF⟩:=gd hF
  obtain ⟨t36,ht36,hF⟩:=bM hF
  obtain ⟨h37,hF⟩:=gd hF
  refine at_inv [.q 44 (fun g38=>.pointer (some ⟨b1,0+22,none⟩)) [] 0 0,.q 45 (fun g38=>.agg (Cd.cs (cVec (cInt .u8) 32 (by decide)) x0.f_Key).toArray) [0] 0 0,.al 0 46 (fun g38=>.slice ((g38 0).2.1) t24.length ((g38 0).2.2.1)) [1],.q 47 (fun g38=>.string t27) [2] 1 1,.q 48 (fun g38=>.string ((⟨#[105,110,115,116,97,108,108,32]⟩:ByteArray)++t27)) [3] 1 1,.q 49 (fun g38=>.string (((⟨#[105,110,115,116,97,108,108,32]⟩:ByteArray)++t27)++(⟨#[32]⟩:ByteArray))) [4] 1 1,.q 50 (fun g38=>.pointer (some ⟨b1,0+54,none⟩)) [] 0 1,.q 51 (fun g38=>.int .u32 x0.f_Local) [6] 0 1,.q 52 (fun g38=>.int .u64 (wr .u64 x0.f_Local)) [7] 0 1,.q 53 (fun g38=>.string t30) [8] 1 1,.q 54 (fun g38=>.string ((((⟨#[105,110,115,116,97,108,108,32]⟩:ByteArray)++t27)++(⟨#[32]⟩:ByteArray))++t30)) [5,9] 1 1,.q 55 (fun g38=>.string (((((⟨#[105,110,115,116,97,108,108,32]⟩:ByteArray)++t27)++(⟨#[32]⟩:ByteArray))++t30)++(⟨#[32]⟩:ByteArray))) [10] 1 1,.q 56 (fun g38=>.pointer (some ⟨b1,0+55,none⟩)) [] 0 1,.q 57 (fun g38=>.int .u32 x0.f_Remote) [12] 0 1,.q 58 (fun g38=>.int .u64 (wr .u64 x0.f_Remote)) [13] 0 1,.q 59 (fun g38=>.string t33) [14] 1 1,.q 60 (fun g38=>.string ((((((⟨#[105,110,115,116,97,108,108,32]⟩:ByteArray)++t27)++(⟨#[32]⟩:ByteArray))++t30)++(⟨#[32]⟩:ByteArray))++t33)) [11,15] 1 1,.q 61 (fun g38=>.string (((((((⟨#[105,110,115,116,97,108,108,32]⟩:ByteArray)++t27)++(⟨#[32]⟩:ByteArray))++t30)++(⟨#[32]⟩:ByteArray))++t33)++(⟨#[32]⟩:ByteArray))) [16] 1 1,.q 62 (fun g38=>.pointer (some ⟨b1,0+56,none⟩)) [] 0 1,.q 63 (fun g38=>.int .u64 x0.f_Next) [18] 0 1,.q 64 (fun g38=>.string t36) [19] 1 1,.q 65 (fun g38=>.string ((((((((⟨#[105,110,115,116,97,108,108,32]⟩:ByteArray)++t27)++(⟨#[32]⟩:ByteArray))++t30)++(⟨#[32]⟩:ByteArray))++t33)++(⟨#[32]⟩:ByteArray))++t36)) [17,20] 1 1,.q 2 (fun g38=>.string ((((((((⟨#[105,110,115,116,97,108,108,32]⟩:ByteArray)++t27)++(⟨#[32]⟩:ByteArray))++t30)++(⟨#[32]⟩:ByteArray))++t33)++(⟨#[32]⟩:ByteArray))++t36)) [21] 1 1] (fun g38 s=>match s with | 0=>(Wd w [cellsE b1 (Cd.cs c_api_Item (g0_,x0)) 33]) | _=>(Wd w [rowE (cInt .u8) 5 ((g38 0).2.1) ((g38 0).2.2.1) t24,cellsE b1 (Cd.cs c_api_Item (g0_,x0)) 33])) 1 (by kernel_rfl) (by kernel_rfl) (by kernel_rfl) (by kernel_rfl) (by kernel_rfl) ⟨fun _ _ _=>rfl,fun _ _ _=>rfl,fun g38 g2 h=>by show (.slice ((g38 0).2.1) t24.length ((g38 0).2.2.1):Value)=.slice ((g2 0).2.1) t24.length ((g2 0).2.2.1);rw [h 0 (show 0<1 by decide)],fun _ _ _=>rfl,fun _ _ _=>rfl,fun _ _ _=>rfl,fun _ _ _=>rfl,fun _ _ _=>rfl,fun _ _ _=>rfl,fun _ _ _=>rfl,fun _ _ _=>rfl,fun _ _ _=>rfl,fun _ _ _=>rfl,fun _ _ _=>rfl,fun _ _ _=>rfl,fun _ _ _=>rfl,fun _ _ _=>rfl,fun _ _ _=>rfl,fun _ _ _=>rfl,fun _ _ _=>rfl,fun _ _ _=>rfl,fun _ _ _=>rfl,fun _ _ _=>rfl,trivial⟩ (by kernel_rfl) (fun w_ h=>⟨fun _=>g3 0 none 0 none w_,h.drew⟩) ⟨?_,?_,?_,?_,?_,?_,?_,?_,?_,?_,?_,?_,?_,?_,?_,?_,?_,?_,?_,?_,?_,?_,?_,trivial⟩ ?_
  ·intro Lx g38 s K hl hh k
   show At 71 ((1,_)::Lx) _ _
   refine fa 22 underlying33 rfl sizeOf29 ?_
   exact at_nil k
  ·intro Lx g38 s K hl hh k
   show At 71 ((44,_)::(1,_)::Lx) _ _
   obtain rfl:s=0:=by omega
   refine aw (r_load_aggc (c:=(cVec (cInt .u8) 32 (by decide))) (z:=x0.f_Key) isAgg29 sizeOf29 rfl (lens_cell .z (c_api_Item_f_Key g0_ x0))) ?_
   exact at_nil k
  ·intro Lx g38 K k
   show At 71 ((45,_)::(1,_)::Lx) _ _
   refine at_callO (c:=(cInt .u8)) (e:=5) (ys:=t24) (V:=fun p cap=>.slice p t24.length cap) func54 rfl (by kernel_rfl) rfl rfl (fun w hw=>crawlwayref07_Bytes_ok _ _ ht24 w) ?_
   intro p25 c26
   exact at_nil (k (g3 0 p25 c26 none w))
  ·intro Lx g38 s K hl hh k
   show At 71 ((46,_)::(1,_)::Lx) _ _
   obtain rfl:s=1:=by omega
   refine cB func53 rfl (fun w hw=>crawlwayref05_Encode_ok _ _ _ _ ht27 w (hw.own .z).row) ?_
   exact at_nil k
  ·intro Lx g38 s K hl hh k
   show At 71 ((47,_)::(1,_)::Lx) _ _
   refine aw (r_concat rfl rfl h28) ?_
   exact at_nil k
  ·intro Lx g38 s K hl hh k
   show At 71 ((48,_)::(1,_)::Lx) _ _
   refine aw (r_concat rfl rfl h29) ?_
   exact at_nil k
  ·intro Lx g38 s K hl hh k
   show At 71 ((1,_)::Lx) _ _
   refine fa 54 underlying33 rfl sizeOf30 ?_
   exact at_nil k
  ·intro Lx g38 s K hl hh k
   show At 71 ((50,_)::(1,_)::Lx) _ _
   rcases (by omega:s=0∨s=1) with rfl | rfl
   ·skip
    refine aw (r_load_cell isAgg30 rfl (lens_cell0 (c:=(cInt .u32)) (y:=x0.f_Local) .z (c_api_Item_f_Local g0_ x0) rfl)) ?_
    exact at_nil k
   skip
   refine aw (r_load_cell isAgg30 rfl (lens_cell0 (c:=(cInt .u32)) (y:=x0.f_Local) (.s .z) (c_api_Item_f_Local g0_ x0) rfl)) ?_
   exact at_nil k
  ·intro Lx g38 s K hl hh k
   show At 71 ((51,_)::(1,_)::Lx) _ _
   refine aw (r_conv underlying30 underlying31 rfl) ?_
   exact at_nil k
  ·intro Lx g38 s K hl hh k
   show At 71 ((52,_)::(1,_)::Lx) _ _
   obtain rfl:s=1:=by omega
   refine cB func55 rfl (fun w hw=>crawlwayref03_Text_ok _ _ ht30 w) ?_
   exact at_nil k
  ·intro Lx g38 s K hl hh k
   show At 71 ((49,_)::(53,_)::(1,_)::Lx) _ _
   refine aw (r_concat rfl rfl h31) ?_
   exact at_nil k
  ·intro Lx g38 s K hl hh k
   show At 71 ((54,_)::(1,_)::Lx) _ _
   refine aw (r_concat rfl rfl h32) ?_
   exact at_nil k
  ·intro Lx g38 s K hl hh k
   show At 71 ((1,_)::Lx) _ _
   refine fa 55 underlying33 rfl sizeOf30 ?_
   exact at_nil k
  ·intro Lx g38 s K hl hh k
   show At 71 ((56,_)::(1,_)::Lx) _ _
   rcases (by omega:s=0∨s=1) with rfl | rfl
   ·skip
    refine aw (r_load_cell isAgg30 rfl (lens_cell0 (c:=(cInt .u32)) (y:=x0.f_Remote) .z (c_api_Item_f_Remote g0_ x0) rfl)) ?_
    exact at_nil k
   skip
   refine aw (r_load_cell isAgg30 rfl (lens_cell0 (c:=(cInt .u32)) (y:=x0.f_Remote) (.s .z) (c_api_Item_f_Remote g0_ x0) rfl)) ?_
   exact at_nil k
  ·intro Lx g38 s K hl hh k
   show At 71 ((57,_)::(1,_)::Lx) _ _
   refine aw (r_conv underlying30 underlying31 rfl) ?_
   exact at_nil k
  ·intro Lx g38 s K hl hh k
   show At 71 ((58,_)::(1,_)::Lx) _ _
   obtain rfl:s=1:=by omega
   refine cB func55 rfl (fun w hw=>crawlwayref03_Text_ok _ _ ht33 w) ?_
   exact at_nil k
  ·intro Lx g38 s K hl hh k
   show At 71 ((55,_)::(59,_)::(1,_)::Lx) _ _
   refine aw (r_concat rfl rfl h34) ?_
   exact at_nil k
  ·intro Lx g38 s K hl hh k
   show At 71 ((60,_)::(1,_)::Lx) _ _
   refine aw (r_concat rfl rfl h35) ?_
   exact at_nil k
  ·intro Lx g38 s K hl hh k
   show At 71 ((1,_)::Lx) _ _
   refine fa 56 underlying33 rfl sizeOf31 ?_
   exact at_nil k
  ·intro Lx g38 s K hl hh k
   show At 71 ((62,_)::(1,_)::Lx) _ _
   rcases (by omega:s=0∨s=1) with rfl | rfl
   ·skip
    refine aw (r_load_cell isAgg31 rfl (lens_cell0 (c:=(cInt .u64)) (y:=x0.f_Next) .z (c_api_Item_f_Next g0_ x0) rfl)) ?_
    exact at_nil k
   skip
   refine aw (r_load_cell isAgg31 rfl (lens_cell0 (c:=(cInt .u64)) (y:=x0.f_Next) (.s .z) (c_api_Item_f_Next g0_ x0) rfl)) ?_
   exact at_nil k
  ·intro Lx g38 s K hl hh k
   show At 71 ((63,_)::(1,_)::Lx) _ _
   obtain rfl:s=1:=by omega
   refine cB func55 rfl (fun w hw=>crawlwayref03_Text_ok _ _ ht36 w) ?_
   exact at_nil k
  ·intro Lx g38 s K hl hh k
   show At 71 ((61,_)::(64,_)::(1,_)::Lx) _ _
   refine aw (r_concat rfl rfl h37) ?_
   exact at_nil k
  ·intro Lx g38 s K hl hh k
   show At 71 ((65,_)::(1,_)::Lx) _ _
   refine aa ?_
   exact at_nil k
  intro g38
  show At 71 [(44,_),(45,_),(46,_),(47,_),(48,_),(49,_),(50,_),(51,_),(52,_),(53,_),(54,_),(55,_),(56,_),(57,_),(58,_),(59,_),(60,_),(61,_),(62,_),(63,_),(64,_),(65,_),(2,_),(1,_)] _ _
  refine dz (dz (wq [2] ?_))
  refine tn (qt ?_)
  refine br (tr ?_)
  have K:=os hF
  subst K
  exact r1 wb
 refine cf h23 ?_
 refine at_skip ?_
 refine bm ?_
 refine sr (fa 54 underlying33 rfl sizeOf30 ?_)
 refine aw (r_load_cell isAgg30 rfl (lens_cell0 (c:=(cInt .u32)) (y:=x0.f_Local) .z (c_api_Item_f_Local g0_ x0) rfl)) ?_
 refine aw (r_conv underlying30 underlying31 rfl) ?_
 obtain ⟨t39,ht39,hF⟩:=bM hF
 refine cB func55 rfl (fun w hw=>crawlwayref03_Text_ok _ _ ht39 w) ?_
 obtain ⟨h40,hF⟩:=gd hF
 refine aw (r_concat rfl rfl h40) ?_
 refine aa (qn (dz (wq [2] ?_)))
 refine tn (qt ?_)
 have K:=os hF
 subst K
 exact r1 wb
def crawlwayref50_take(x0:S_api_Item)(x1:Int)(x2:ByteArray):Option (S_api_Item×Int) :=
 if (x0.f_Kind==4)=true then (if (x1==0)=true then (crawlwayref12_Parse x2>>=fun t5=>some ({ x0 with f_From:=t5.1 },t5.2)) else (if (wr .i64 (x1-1)==0)=true then (crawlwayref50_bytes x2>>=fun t8=>some ({ x0 with f_Bytes:=t8.1 },t8.2)) else (if (!seq x2 (⟨#[33]⟩:ByteArray))=true then (crawlwayref50_bytes x2>>=fun t15=>some ({ { x0 with f_Ok:=true } with f_Result:=t15.1 },t15.2)) else (some (x0,0))))) else (if (decide (x0.f_Kind≤4))=true then (if (x1==0)=true then (crawlwayref50_bytes x2>>=fun t23=>some ({ x0 with f_Bytes:=t23.1 },t23.2)) else (if (!seq x2 (⟨#[33]⟩:ByteArray))=true then (crawlwayref50_bytes x2>>=fun t30=>some ({ { x0 with f_Ok:=true } with f_Result:=t30.1 },t30.2)) else (some (x0,0)))) else (if (x0.f_Kind==5)=true then (if (x1==0)=true then (crawlwayref07_ParseHex x2>>=fun t38=>some ({ x0 with f_Key:=t38.1 },t38.2)) else (if (x1==3)=true then (crawlwayref03_Read x2 18446744073709551615>>=fun t41=>some ({ x0 with f_Next:=t41.1 },t41.2)) else (crawlwayref03_Read x2 4294967295>>=fun t43=>if (x1==2)=true then (some ({ x0 with f_Remote:=wr .u32 t43.1 },t43.2)) else (some ({ x0 with f_Local:=wr .u32 t43.1 },t43.2))))) else (crawlwayref03_Read x2 4294967295>>=fun t47=>some ({ x0 with f_Local:=wr .u32 t47.1 },t47.2))))
theorem crawlwayref50_take_ok{x0:S_api_Item}{x1:Int}{x2:ByteArray}{r:S_api_Item×Int}(hF:crawlwayref50_take x0 x1 x2=some r):∀ {w0 w:World} {G_:List Ent} {Z_:List Nat} {s_:World} {g0_:G_api_Item} (hz0:NK_api_Item (KZ w0 Z_) s_ (g0_,x0)) (hw_:Wd w0 (frzE w0 Z_ s_::G_) w),
    Calls Tryz.prog 57 #[.agg (Cd.cs c_api_Item (g0_,x0)).toArray,.int .i64 x1,.string x2] w (fun e w'=>∃ (Z':List Nat) (s':World) (z:G_api_Item),Mono (KZ w0 Z_) s_ (KZ w0 Z') s'∧e=.returned (.tuple #[.agg (Cd.cs c_api_Item (z,r.1)).toArray,.int .i64 r.2])∧(NK_api_Item (KZ w0 Z') s' (z,r.1))∧Wd w0 (frzE w0 Z' s'::G_) w'):=by
 intro w0 w G_ Z_ s_ g0_ hz0 hw_
 unfold crawlwayref50_take at hF
 refine ce (l:=[.agg (Cd.cs c_api_Item (g0_,x0)).toArray,.int .i64 x1,.string x2]) func57 rfl rfl ?_
 refine at_enterF hw_ ?_
 clear hw_
 obtain ⟨Z0_,hZ0_⟩:∃ Z0_,Z0_=Z_:=⟨_,rfl⟩
 obtain ⟨s0_,hs0_⟩:∃ s0_,s0_=s_:=⟨_,rfl⟩
 have hM_:Mono (KZ w0 Z0_) s0_ (KZ w0 Z_) s_:=by rw [hZ0_,hs0_];exact Mono.refl _ _
 rw [←hZ0_,←hs0_]
 rw [show frzE w0 Z0_ s0_=frzE w0 Z_ s_ from by rw [hZ0_,hs0_]]
 refine sr ?_
 refine at_box (cs:=Cd.cs c_api_Item (g0_,x0)) rfl rfl rfl ?_
 intro b1
 refine al (cs:=Cd.cs c_api_Item zv10) zeroValue33 ?_
 intro b2
 refine aa (ns (aa (ns (am (aa (nt (qs (sr ?_))))))))
 refine fa 0 underlying33 rfl sizeOf3 ?_
 refine aw (r_load_cell isAgg3 rfl (lens_cell0 (c:=(cInt .i64)) (y:=x0.f_Kind) (.s .z) (c_api_Item_f_Kind g0_ x0) rfl)) ?_
 refine aw xq (nwq [15,9,8,6,3,2,1] ?_)
 obtain ⟨h3,hF⟩|⟨h3,hF⟩:=oi hF
 ·refine ct h3 ?_
  refine qr (am ?_)
  refine aw (r_isub rfl rfl) ?_
  refine aa (nwq [9,8,6,3,2,1] ?_)
  refine qs (sr (fa 0 underlying33 rfl sizeOf3 ?_))
  refine aw (r_load_cell isAgg3 rfl (lens_cell0 (c:=(cInt .i64)) (y:=x0.f_Kind) (.s .z) (c_api_Item_f_Kind g0_ x0) rfl)) ?_
  refine aw xq (am ?_)
  refine fx 21 h3 ?_
  refine gy ?_
  refine am ?_
  refine gy ?_
  refine aw xq (aw xp (nwq [24,9,8,6,3,2,1] ?_))
  obtain ⟨h4,hF⟩|⟨h4,hF⟩:=oi hF
  ·refine ct h4 ?_
   refine qr (am ?_)
   obtain ⟨t5,ht5,hF⟩:=bM hF
   refine cB func40 rfl (fun w hw=>crawlwayref12_Parse_ok _ _ ht5 w) ?_
   refine am ?_
   refine aw xe (aw xe (fa 2 underlying33 rfl sizeOf27 ?_))
   refine at_store (c:=c_api_Endpoint) (z:=t5.1) (.s .z) (c_api_Item_f_From g0_ x0) sizeOf27 rfl rfl rfl ?_
   refine aa (ns ?_)
   refine aw (r_load_aggc (c:=c_api_Item) (z:=(g0_,{ x0 with f_From:=t5.1 })) isAgg33 sizeOf33 rfl (lens_cell (.s .z) lw)) ?_
   refine am ?_
   refine at_store (c:=c_api_Item) (z:=(g0_,{ x0 with f_From:=t5.1 })) .z lw sizeOf33 rfl rfl rfl ?_
   refine aa (qn ?_)
   refine at_drop (H:=_) (.s .z) ?_
   refine wq [7,6] ?_
   refine tn (qt ?_)
   have hN6:NK_api_Item (KZ w0 Z_) s_ (g0_,{ x0 with f_From:=t5.1 }):=hz0
   have K:=os hF
   subst K
   exact at_res2 rfl (res_cell (c:=c_api_Item) (y:=(g0_,{ x0 with f_From:=t5.1 })) rfl .z lw isAgg33 sizeOf33 (.inl rfl)) (res_tmp rfl) (fun w1 hw=>⟨Z_,s_,g0_,hM_,rfl,hN6,hw.pop⟩)
  refine cf h4 ?_
  refine sr (fa 0 underlying33 rfl sizeOf3 ?_)
  refine aw (r_load_cell isAgg3 rfl (lens_cell0 (c:=(cInt .i64)) (y:=x0.f_Kind) (.s .z) (c_api_Item_f_Kind g0_ x0) rfl)) ?_
  refine aw (r_ileq rfl rfl) ?_
  refine am ?_
  refine at_fix (g:=34) rfl (kn (f:=fun z_=>decide (z_≤4)) (bb:=true) h3 (by decide)) ?_
  refine gy ?_
  refine am ?_
  refine gy ?_
  refine aw xq (aw xp (nwq [37,8,6,3,2,1] ?_))
  obtain ⟨h7,hF⟩|⟨h7,hF⟩:=oi hF
  ·refine ct h7 ?_
   refine qr (am ?_)
   obtain ⟨t8,ht8,hF⟩:=bM hF
   refine at_callO (c:=(cInt .u8)) (e:=5) (ys:=t8.1) (V:=fun p cap=>.tuple #[.slice p t8.1.length cap,.int .i64 t8.2]) func89 rfl (by kernel_rfl) rfl rfl (fun w hw=>crawlwayref50_bytes_ok _ _ ht8 w) ?_
   intro p9 c10
   refine am ?_
   refine aw xe (aw xe (fa 1 underlying33 rfl sizeOf22 ?_))
   refine at_store (c:=cSv Int) (z:=((p9,c10),t8.1)) (.s (.s .z)) (c_api_Item_f_Bytes_sv g0_ x0) sizeOf22 rfl rfl rfl ?_
   refine aa (ns ?_)
   refine aw (r_load_aggc (c:=c_api_Item) (z:=(((p9,c10),(g0_.2.1,g0_.2.2)),{ x0 with f_Bytes:=t8.1 })) isAgg33 sizeOf33 rfl (lens_cell (.s (.s .z)) lw)) ?_
   refine am ?_
   refine at_store (c:=c_api_Item) (z:=(((p9,c10),(g0_.2.1,g0_.2.2)),{ x0 with f_Bytes:=t8.1 })) (.s .z) lw sizeOf33 rfl rfl rfl ?_
   refine aa (qn ?_)
   refine at_drop (H:=_) (.s (.s .z)) ?_
   refine wq [7,6] ?_
   refine tn (qt ?_)
   refine at_freeze (.s .z) ?_
   intro Z_ s_ hm12 hk13
   replace hM_:=Mono.mono hM_ hm12
   replace hz0:=NK_api_Item.mono hz0 hm12
   have hN11:NK_api_Item (KZ w0 Z_) s_ (((p9,c10),(g0_.2.1,g0_.2.2)),{ x0 with f_Bytes:=t8.1 }):=⟨hk13,hz0.2⟩
   have K:=os hF
   subst K
   exact at_res2 rfl (res_cell (c:=c_api_Item) (y:=(((p9,c10),(g0_.2.1,g0_.2.2)),{ x0 with f_Bytes:=t8.1 })) rfl .z lw isAgg33 sizeOf33 (.inl rfl)) (res_tmp rfl) (fun w1 hw=>⟨Z_,s_,((p9,c10),(g0_.2.1,g0_.2.2)),hM_,rfl,hN11,hw.pop⟩)
  refine cf h7 ?_
  refine sr (fa 0 underlying33 rfl sizeOf3 ?_)
  refine aw (r_load_cell isAgg3 rfl (lens_cell0 (c:=(cInt .i64)) (y:=x0.f_Kind) (.s .z) (c_api_Item_f_Kind g0_ x0) rfl)) ?_
  refine aw (r_ileq rfl rfl) ?_
  refine nwq [46,8,6,3,2,1] ?_
  refine ct (kn (f:=fun z_=>decide (z_≤4)) (bb:=true) h3 (by decide)) ?_
  refine sr (am ?_)
  refine aw (r_sneq rfl rfl) ?_
  refine nwq [48,8,6,3,2] ?_
  obtain ⟨h14,hF⟩|⟨h14,hF⟩:=oi hF
  ·refine ct h14 ?_
   refine sr (fa 21 underlying33 rfl sizeOf4 ?_)
   refine at_store (c:=cBool) (z:=true) (.s .z) (c_api_Item_f_Ok g0_ x0) sizeOf4 rfl rfl rfl ?_
   refine nt (qr (am ?_))
   obtain ⟨t15,ht15,hF⟩:=bM hF
   refine at_callO (c:=(cInt .u8)) (e:=5) (ys:=t15.1) (V:=fun p cap=>.tuple #[.slice p t15.1.length cap,.int .i64 t15.2]) func89 rfl (by kernel_rfl) rfl rfl (fun w hw=>crawlwayref50_bytes_ok _ _ ht15 w) ?_
   intro p16 c17
   refine am ?_
   refine aw xe (aw xe (fa 20 underlying33 rfl sizeOf22 ?_))
   refine at_store (c:=cSv Int) (z:=((p16,c17),t15.1)) (.s (.s .z)) (c_api_Item_f_Result_sv g0_ ({ x0 with f_Ok:=true })) sizeOf22 rfl rfl rfl ?_
   refine aa (ns ?_)
   refine aw (r_load_aggc (c:=c_api_Item) (z:=(((g0_.1.1,g0_.1.2),(p16,c17)),{ { x0 with f_Ok:=true } with f_Result:=t15.1 })) isAgg33 sizeOf33 rfl (lens_cell (.s (.s .z)) lw)) ?_
   refine am ?_
   refine at_store (c:=c_api_Item) (z:=(((g0_.1.1,g0_.1.2),(p16,c17)),{ { x0 with f_Ok:=true } with f_Result:=t15.1 })) (.s .z) lw sizeOf33 rfl rfl rfl ?_
   refine aa (qn ?_)
   refine at_drop (H:=_) (.s (.s .z)) ?_
   refine wq [7,6] ?_
   refine tn (qt ?_)
   refine at_freeze (.s .z) ?_
   intro Z_ s_ hm19 hk20
   replace hM_:=Mono.mono hM_ hm19
   replace hz0:=NK_api_Item.mono hz0 hm19
   have hN18:NK_api_Item (KZ w0 Z_) s_ (((g0_.1.1,g0_.1.2),(p16,c17)),{ { x0 with f_Ok:=true } with f_Result:=t15.1 }):=⟨hz0.1,hk20⟩
   have K:=os hF
   subst K
   exact at_res2 rfl (res_cell (c:=c_api_Item) (y:=(((g0_.1.1,g0_.1.2),(p16,c17)),{ { x0 with f_Ok:=true } with f_Result:=t15.1 })) rfl .z lw isAgg33 sizeOf33 (.inl rfl)) (res_tmp rfl) (fun w1 hw=>⟨Z_,s_,((g0_.1.1,g0_.1.2),(p16,c17)),hM_,rfl,hN18,hw.pop⟩)
  refine cf h14 ?_
  refine sns ?_
  refine aw (r_load_aggc (c:=c_api_Item) (z:=(g0_,x0)) isAgg33 sizeOf33 rfl (lens_cell (.s .z) lw)) ?_
  refine am ?_
  refine at_store (c:=c_api_Item) (z:=(g0_,x0)) .z lw sizeOf33 rfl rfl rfl ?_
  refine aa (qn ?_)
  refine at_drop (H:=_) (.s .z) ?_
  refine wq [7,6] ?_
  refine tn (qt ?_)
  have K:=os hF
  subst K
  exact at_res2 rfl (res_cell (c:=c_api_Item) (y:=(g0_,x0)) rfl .z lw isAgg33 sizeOf33 (.inl rfl)) (res_tmp rfl) (fun w1 hw=>⟨Z_,s_,g0_,hM_,rfl,hz0,hw.pop⟩)
 refine cf h3 ?_
 refine sn (qs (sr (fa 0 underlying33 rfl sizeOf3 ?_)))
 refine aw (r_load_cell isAgg3 rfl (lens_cell0 (c:=(cInt .i64)) (y:=x0.f_Kind) (.s .z) (c_api_Item_f_Kind g0_ x0) rfl)) ?_
 refine aw xq (am ?_)
 refine fx 21 h3 ?_
 refine gn ?_
 refine gn ?_
 refine aw xp (nwq [24,9,8,6,3,2,1] ?_)
 refine cf rfl ?_
 refine sr (fa 0 underlying33 rfl sizeOf3 ?_)
 refine aw (r_load_cell isAgg3 rfl (lens_cell0 (c:=(cInt .i64)) (y:=x0.f_Kind) (.s .z) (c_api_Item_f_Kind g0_ x0) rfl)) ?_
 refine aw (r_ileq rfl rfl) ?_
 refine am ?_
 obtain ⟨h21,hF⟩|⟨h21,hF⟩:=oi hF
 ·refine fx 34 h21 ?_
  refine gy ?_
  refine am ?_
  refine gy ?_
  refine aw xq (aw xp (nwq [37,8,6,3,2,1] ?_))
  obtain ⟨h22,hF⟩|⟨h22,hF⟩:=oi hF
  ·refine ct h22 ?_
   refine qr (am ?_)
   obtain ⟨t23,ht23,hF⟩:=bM hF
   refine at_callO (c:=(cInt .u8)) (e:=5) (ys:=t23.1) (V:=fun p cap=>.tuple #[.slice p t23.1.length cap,.int .i64 t23.2]) func89 rfl (by kernel_rfl) rfl rfl (fun w hw=>crawlwayref50_bytes_ok _ _ ht23 w) ?_
   intro p24 c25
   refine am ?_
   refine aw xe (aw xe (fa 1 underlying33 rfl sizeOf22 ?_))
   refine at_store (c:=cSv Int) (z:=((p24,c25),t23.1)) (.s (.s .z)) (c_api_Item_f_Bytes_sv g0_ x0) sizeOf22 rfl rfl rfl ?_
   refine aa (ns ?_)
   refine aw (r_load_aggc (c:=c_api_Item) (z:=(((p24,c25),(g0_.2.1,g0_.2.2)),{ x0 with f_Bytes:=t23.1 })) isAgg33 sizeOf33 rfl (lens_cell (.s (.s .z)) lw)) ?_
   refine am ?_
   refine at_store (c:=c_api_Item) (z:=(((p24,c25),(g0_.2.1,g0_.2.2)),{ x0 with f_Bytes:=t23.1 })) (.s .z) lw sizeOf33 rfl rfl rfl ?_
   refine aa (qn ?_)
   refine at_drop (H:=_) (.s (.s .z)) ?_
   refine wq [7,6] ?_
   refine tn (qt ?_)
   refine at_freeze (.s .z) ?_
   intro Z_ s_ hm27 hk28
   replace hM_:=Mono.mono hM_ hm27
   replace hz0:=NK_api_Item.mono hz0 hm27
   have hN26:NK_api_Item (KZ w0 Z_) s_ (((p24,c25),(g0_.2.1,g0_.2.2)),{ x0 with f_Bytes:=t23.1 }):=⟨hk28,hz0.2⟩
   have K:=os hF
   subst K
   exact at_res2 rfl (res_cell (c:=c_api_Item) (y:=(((p24,c25),(g0_.2.1,g0_.2.2)),{ x0 with f_Bytes:=t23.1 })) rfl .z lw isAgg33 sizeOf33 (.inl rfl)) (res_tmp rfl) (fun w1 hw=>⟨Z_,s_,((p24,c25),(g0_.2.1,g0_.2.2)),hM_,rfl,hN26,hw.pop⟩)
  refine cf h22 ?_
  refine sr (fa 0 underlying33 rfl sizeOf3 ?_)
  refine aw (r_load_cell isAgg3 rfl (lens_cell0 (c:=(cInt .i64)) (y:=x0.f_Kind) (.s .z) (c_api_Item_f_Kind g0_ x0) rfl)) ?_
  refine aw (r_ileq rfl rfl) ?_
  refine nwq [46,8,6,3,2,1] ?_
  refine ct h21 ?_
  refine sr (am ?_)
  refine aw (r_sneq rfl rfl) ?_
  refine nwq [48,8,6,3,2] ?_
  obtain ⟨h29,hF⟩|⟨h29,hF⟩:=oi hF
  ·refine ct h29 ?_
   refine sr (fa 21 underlying33 rfl sizeOf4 ?_)
   refine at_store (c:=cBool) (z:=true) (.s .z) (c_api_Item_f_Ok g0_ x0) sizeOf4 rfl rfl rfl ?_
   refine nt (qr (am ?_))
   obtain ⟨t30,ht30,hF⟩:=bM hF
   refine at_callO (c:=(cInt .u8)) (e:=5) (ys:=t30.1) (V:=fun p cap=>.tuple #[.slice p t30.1.length cap,.int .i64 t30.2]) func89 rfl (by kernel_rfl) rfl rfl (fun w hw=>crawlwayref50_bytes_ok _ _ ht30 w) ?_
   intro p31 c32
   refine am ?_
   refine aw xe (aw xe (fa 20 underlying33 rfl sizeOf22 ?_))
   refine at_store (c:=cSv Int) (z:=((p31,c32),t30.1)) (.s (.s .z)) (c_api_Item_f_Result_sv g0_ ({ x0 with f_Ok:=true })) sizeOf22 rfl rfl rfl ?_
   refine aa (ns ?_)
   refine aw (r_load_aggc (c:=c_api_Item) (z:=(((g0_.1.1,g0_.1.2),(p31,c32)),{ { x0 with f_Ok:=true } with f_Result:=t30.1 })) isAgg33 sizeOf33 rfl (lens_cell (.s (.s .z)) lw)) ?_
   refine am ?_
   refine at_store (c:=c_api_Item) (z:=(((g0_.1.1,g0_.1.2),(p31,c32)),{ { x0 with f_Ok:=true } with f_Result:=t30.1 })) (.s .z) lw sizeOf33 rfl rfl rfl ?_
   refine aa (qn ?_)
   refine at_drop (H:=_) (.s (.s .z)) ?_
   refine wq [7,6] ?_
   refine tn (qt ?_)
   refine at_freeze (.s .z) ?_
   intro Z_ s_ hm34 hk35
   replace hM_:=Mono.mono hM_ hm34
   replace hz0:=NK_api_Item.mono hz0 hm34
   have hN33:NK_api_Item (KZ w0 Z_) s_ (((g0_.1.1,g0_.1.2),(p31,c32)),{ { x0 with f_Ok:=true } with f_Result:=t30.1 }):=⟨hz0.1,hk35⟩
   have K:=os hF
   subst K
   exact at_res2 rfl (res_cell (c:=c_api_Item) (y:=(((g0_.1.1,g0_.1.2),(p31,c32)),{ { x0 with f_Ok:=true } with f_Result:=t30.1 })) rfl .z lw isAgg33 sizeOf33 (.inl rfl)) (res_tmp rfl) (fun w1 hw=>⟨Z_,s_,((g0_.1.1,g0_.1.2),(p31,c32)),hM_,rfl,hN33,hw.pop⟩)
  refine cf h29 ?_
  refine sns ?_
  refine aw (r_load_aggc (c:=c_api_Item) (z:=(g0_,x0)) isAgg33 sizeOf33 rfl (lens_cell (.s .z) lw)) ?_
  refine am ?_
  refine at_store (c:=c_api_Item) (z:=(g0_,x0)) .z lw sizeOf33 rfl rfl rfl ?_
  refine aa (qn ?_)
  refine at_drop (H:=_) (.s .z) ?_
  refine wq [7,6] ?_
  refine tn (qt ?_)
  have K:=os hF
  subst K
  exact at_res2 rfl (res_cell (c:=c_api_Item) (y:=(g0_,x0)) rfl .z lw isAgg33 sizeOf33 (.inl rfl)) (res_tmp rfl) (fun w1 hw=>⟨Z_,s_,g0_,hM_,rfl,hz0,hw.pop⟩)
 refine fx 34 h21 ?_
 refine gn ?_
 refine gn ?_
 refine aw xp (nwq [37,8,6,3,2,1] ?_)
 refine cf rfl ?_
 refine sr (fa 0 underlying33 rfl sizeOf3 ?_)
 refine aw (r_load_cell isAgg3 rfl (lens_cell0 (c:=(cInt .i64)) (y:=x0.f_Kind) (.s .z) (c_api_Item_f_Kind g0_ x0) rfl)) ?_
 refine aw (r_ileq rfl rfl) ?_
 refine nwq [46,8,6,3,2,1] ?_
 refine cf h21 ?_
 refine sr (fa 0 underlying33 rfl sizeOf3 ?_)
 refine aw (r_load_cell isAgg3 rfl (lens_cell0 (c:=(cInt .i64)) (y:=x0.f_Kind) (.s .z) (c_api_Item_f_Kind g0_ x0) rfl)) ?_
 refine aw xq (am ?_)
 obtain ⟨h36,hF⟩|⟨h36,hF⟩:=oi hF
 ·refine fx 59 h36 ?_
  refine gy ?_
  refine am ?_
  refine gy ?_
  refine aw xq (aw xp (nwq [62,6,3,2,1] ?_))
  obtain ⟨h37,hF⟩|⟨h37,hF⟩:=oi hF
  ·refine ct h37 ?_
   refine qr (am ?_)
   obtain ⟨t38,ht38,hF⟩:=bM hF
   refine cB func39 rfl (fun w hw=>crawlwayref07_ParseHex_ok _ _ ht38 w) ?_
   refine am ?_
   refine aw xe (aw xe (fa 22 underlying33 rfl sizeOf29 ?_))
   refine at_store (c:=(cVec (cInt .u8) 32 (by decide))) (z:=t38.1) (.s .z) (c_api_Item_f_Key g0_ x0) sizeOf29 rfl rfl rfl ?_
   refine aa (ns ?_)
   refine aw (r_load_aggc (c:=c_api_Item) (z:=(g0_,{ x0 with f_Key:=t38.1 })) isAgg33 sizeOf33 rfl (lens_cell (.s .z) lw)) ?_
   refine am ?_
   refine at_store (c:=c_api_Item) (z:=(g0_,{ x0 with f_Key:=t38.1 })) .z lw sizeOf33 rfl rfl rfl ?_
   refine aa (qn ?_)
   refine at_drop (H:=_) (.s .z) ?_
   refine wq [7,6] ?_
   refine tn (qt ?_)
   have hN39:NK_api_Item (KZ w0 Z_) s_ (g0_,{ x0 with f_Key:=t38.1 }):=hz0
   have K:=os hF
   subst K
   exact at_res2 rfl (res_cell (c:=c_api_Item) (y:=(g0_,{ x0 with f_Key:=t38.1 })) rfl .z lw isAgg33 sizeOf33 (.inl rfl)) (res_tmp rfl) (fun w1 hw=>⟨Z_,s_,g0_,hM_,rfl,hN39,hw.pop⟩)
  refine cf h37 ?_
  refine sr (fa 0 underlying33 rfl sizeOf3 ?_)
  refine aw (r_load_cell isAgg3 rfl (lens_cell0 (c:=(cInt .i64)) (y:=x0.f_Kind) (.s .z) (c_api_Item_f_Kind g0_ x0) rfl)) ?_
  refine aw xq (am ?_)
  refine fx 72 h36 ?_
  refine gy ?_
  refine am ?_
  refine gy ?_
  refine aw xq (aw xp (nwq [75,6,3,2,1] ?_))
  obtain ⟨h40,hF⟩|⟨h40,hF⟩:=oi hF
  ·refine ct h40 ?_
   refine qr (am ?_)
   obtain ⟨t41,ht41,hF⟩:=bM hF
   refine at_call0 func43 rfl (by kernel_rfl) rfl rfl (fun w=>crawlwayref03_Read_ok _ _ _ ht41 w) ?_
   refine am ?_
   refine aw xe (aw xe (fa 56 underlying33 rfl sizeOf31 ?_))
   refine at_store (c:=(cInt .u64)) (z:=t41.1) (.s .z) (c_api_Item_f_Next g0_ x0) sizeOf31 rfl rfl rfl ?_
   refine aa (ns ?_)
   refine aw (r_load_aggc (c:=c_api_Item) (z:=(g0_,{ x0 with f_Next:=t41.1 })) isAgg33 sizeOf33 rfl (lens_cell (.s .z) lw)) ?_
   refine am ?_
   refine at_store (c:=c_api_Item) (z:=(g0_,{ x0 with f_Next:=t41.1 })) .z lw sizeOf33 rfl rfl rfl ?_
   refine aa (qn ?_)
   refine at_drop (H:=_) (.s .z) ?_
   refine wq [7,6] ?_
   refine tn (qt ?_)
   have hN42:NK_api_Item (KZ w0 Z_) s_ (g0_,{ x0 with f_Next:=t41.1 }):=hz0
   have K:=os hF
   subst K
   exact at_res2 rfl (res_cell (c:=c_api_Item) (y:=(g0_,{ x0 with f_Next:=t41.1 })) rfl .z lw isAgg33 sizeOf33 (.inl rfl)) (res_tmp rfl) (fun w1 hw=>⟨Z_,s_,g0_,hM_,rfl,hN42,hw.pop⟩)
  refine cf h40 ?_
  refine sr (am ?_)
  obtain ⟨t43,ht43,hF⟩:=bM hF
  refine at_call0 func43 rfl (by kernel_rfl) rfl rfl (fun w=>crawlwayref03_Read_ok _ _ _ ht43 w) ?_
  refine am ?_
  refine aw xe (aw xe (aa (aa (ns (am (aa (nwx [10,8,6,3,1] ?_)))))))
  refine fa 0 underlying33 rfl sizeOf3 ?_
  refine aw (r_load_cell isAgg3 rfl (lens_cell0 (c:=(cInt .i64)) (y:=x0.f_Kind) (.s .z) (c_api_Item_f_Kind g0_ x0) rfl)) ?_
  refine aw xq (am ?_)
  refine fx 91 h36 ?_
  refine gy ?_
  refine am ?_
  refine gy ?_
  refine aw xq (aw xp (nwq [94,10,8,6,3] ?_))
  obtain ⟨h44,hF⟩|⟨h44,hF⟩:=oi hF
  ·refine ct h44 ?_
   refine qr (am ?_)
   refine aw (r_conv underlying31 underlying30 rfl) ?_
   refine fa 55 underlying33 rfl sizeOf30 ?_
   refine at_store (c:=(cInt .u32)) (z:=wr .u32 t43.1) (.s .z) (c_api_Item_f_Remote g0_ x0) sizeOf30 rfl rfl rfl ?_
   refine ns ?_
   refine aw (r_load_aggc (c:=c_api_Item) (z:=(g0_,{ x0 with f_Remote:=wr .u32 t43.1 })) isAgg33 sizeOf33 rfl (lens_cell (.s .z) lw)) ?_
   refine am ?_
   refine at_store (c:=c_api_Item) (z:=(g0_,{ x0 with f_Remote:=wr .u32 t43.1 })) .z lw sizeOf33 rfl rfl rfl ?_
   refine aa (qn ?_)
   refine at_drop (H:=_) (.s .z) ?_
   refine wq [7,6] ?_
   refine tn (qt ?_)
   have hN45:NK_api_Item (KZ w0 Z_) s_ (g0_,{ x0 with f_Remote:=wr .u32 t43.1 }):=hz0
   have K:=os hF
   subst K
   exact at_res2 rfl (res_cell (c:=c_api_Item) (y:=(g0_,{ x0 with f_Remote:=wr .u32 t43.1 })) rfl .z lw isAgg33 sizeOf33 (.inl rfl)) (res_tmp rfl) (fun w1 hw=>⟨Z_,s_,g0_,hM_,rfl,hN45,hw.pop⟩)
  refine cf h44 ?_
  refine qr (am ?_)
  refine aw (r_conv underlying31 underlying30 rfl) ?_
  refine fa 54 underlying33 rfl sizeOf30 ?_
  refine at_store (c:=(cInt .u32)) (z:=wr .u32 t43.1) (.s .z) (c_api_Item_f_Local g0_ x0) sizeOf30 rfl rfl rfl ?_
  refine ns ?_
  refine aw (r_load_aggc (c:=c_api_Item) (z:=(g0_,{ x0 with f_Local:=wr .u32 t43.1 })) isAgg33 sizeOf33 rfl (lens_cell (.s .z) lw)) ?_
  refine am ?_
  refine at_store (c:=c_api_Item) (z:=(g0_,{ x0 with f_Local:=wr .u32 t43.1 })) .z lw sizeOf33 rfl rfl rfl ?_
  refine aa (qn ?_)
  refine at_drop (H:=_) (.s .z) ?_
  refine wq [7,6] ?_
  refine tn (qt ?_)
  have hN46:NK_api_Item (KZ w0 Z_) s_ (g0_,{ x0 with f_Local:=wr .u32 t43.1 }):=hz0
  have K:=os hF
  subst K
  exact at_res2 rfl (res_cell (c:=c_api_Item) (y:=(g0_,{ x0 with f_Local:=wr .u32 t43.1 })) rfl .z lw isAgg33 sizeOf33 (.inl rfl)) (res_tmp rfl) (fun w1 hw=>⟨Z_,s_,g0_,hM_,rfl,hN46,hw.pop⟩)
 refine fx 59 h36 ?_
 refine gn ?_
 refine gn ?_
 refine aw xp (nwq [62,6,3,2,1] ?_)
 refine cf rfl ?_
 refine sr (fa 0 underlying33 rfl sizeOf3 ?_)
 refine aw (r_load_cell isAgg3 rfl (lens_cell0 (c:=(cInt .i64)) (y:=x0.f_Kind) (.s .z) (c_api_Item_f_Kind g0_ x0) rfl)) ?_
 refine aw xq (am ?_)
 refine fx 72 h36 ?_
 refine gn ?_
 refine gn ?_
 refine aw xp (nwq [75,6,3,2,1] ?_)
 refine cf rfl ?_
 refine sr (am ?_)
 obtain ⟨t47,ht47,hF⟩:=bM hF
 refine at_call0 func43 rfl (by kernel_rfl) rfl rfl (fun w=>crawlwayref03_Read_ok _ _ _ ht47 w) ?_
 refine am ?_
 refine aw xe (aw xe (aa (aa (ns (am (aa (nwx [10,8,6,3,1] ?_)))))))
 refine fa 0 underlying33 rfl sizeOf3 ?_
 refine aw (r_load_cell isAgg3 rfl (lens_cell0 (c:=(cInt .i64)) (y:=x0.f_Kind) (.s .z) (c_api_Item_f_Kind g0_ x0) rfl)) ?_
 refine aw xq (am ?_)
 refine fx 91 h36 ?_
 refine gn ?_
 refine gn ?_
 refine aw xp (nwq [94,10,8,6,3] ?_)
 refine cf rfl ?_
 refine qr (am ?_)
 refine aw (r_conv underlying31 underlying30 rfl) ?_
 refine fa 54 underlying33 rfl sizeOf30 ?_
 refine at_store (c:=(cInt .u32)) (z:=wr .u32 t47.1) (.s .z) (c_api_Item_f_Local g0_ x0) sizeOf30 rfl rfl rfl ?_
 refine ns ?_
 refine aw (r_load_aggc (c:=c_api_Item) (z:=(g0_,{ x0 with f_Local:=wr .u32 t47.1 })) isAgg33 sizeOf33 rfl (lens_cell (.s .z) lw)) ?_
 refine am ?_
 refine at_store (c:=c_api_Item) (z:=(g0_,{ x0 with f_Local:=wr .u32 t47.1 })) .z lw sizeOf33 rfl rfl rfl ?_
 refine aa (qn ?_)
 refine at_drop (H:=_) (.s .z) ?_
 refine wq [7,6] ?_
 refine tn (qt ?_)
 have hN48:NK_api_Item (KZ w0 Z_) s_ (g0_,{ x0 with f_Local:=wr .u32 t47.1 }):=hz0
 have K:=os hF
 subst K
 exact at_res2 rfl (res_cell (c:=c_api_Item) (y:=(g0_,{ x0 with f_Local:=wr .u32 t47.1 })) rfl .z lw isAgg33 sizeOf33 (.inl rfl)) (res_tmp rfl) (fun w1 hw=>⟨Z_,s_,g0_,hM_,rfl,hN48,hw.pop⟩)
def crawlwayref50_Parse.l0(t2:List ByteArray)(i15:Int)(i17:S_api_Item):Option (S_api_Item) :=
 if (decide (i15≤6))=true then (if (0:Int)≤i15∧i15<(([⟨#[]⟩,⟨#[115,101,116]⟩,⟨#[108,111,97,100]⟩,⟨#[111,117,116]⟩,⟨#[105,110]⟩,⟨#[105,110,115,116,97,108,108]⟩,⟨#[102,111,114,103,101,116]⟩]:List ByteArray).length:Int) then if (0:Int)≤0∧0<(t2.length:Int) then if (seq (lget ([⟨#[]⟩,⟨#[115,101,116]⟩,⟨#[108,111,97,100]⟩,⟨#[111,117,116]⟩,⟨#[105,110]⟩,⟨#[105,110,115,116,97,108,108]⟩,⟨#[102,111,114,103,101,116]⟩]:List ByteArray) i15) (lget t2 0))=true then (crawlwayref50_Parse.l0 t2 (wr .i64 (i15+1)) ({ i17 with f_Kind:=i15 })) else (crawlwayref50_Parse.l0 t2 (wr .i64 (i15+1)) i17) else none else none) else (some i17)
 partial_fixpoint
def crawlwayref50_Parse.l1(t2:List ByteArray)(i50:Int)(i51:S_api_Item):Option (Ctl (S_api_Item×Int) (S_api_Item)) :=
 if (decide (i50<(t2.length:Int)))=true then (if (0:Int)≤i50∧i50<(t2.length:Int) then crawlwayref50_take i51 (wr .i64 (i50-1)) (lget t2 i50)>>=fun t71=>if (t71.2 != 0)=true then (some (.ret (zv8,t71.2))) else (crawlwayref50_Parse.l1 t2 (wr .i64 (i50+1)) t71.1) else none) else (some (.nx i51))
 partial_fixpoint
def crawlwayref50_Parse(x0:ByteArray):Option (S_api_Item×Int) :=
 crawlwayref06_Parts x0 32>>=fun t2=>crawlwayref50_Parse.l0 t2 1 zv8>>=fun q14=>if (q14.f_Kind==0)=true then (some (q14,12)) else (if (0:Int)≤q14.f_Kind∧q14.f_Kind<(([0,2,2,3,4,5,2]:List Int).length:Int) then if ((t2.length:Int) != lget ([0,2,2,3,4,5,2]:List Int) q14.f_Kind)=true then (some (zv8,5)) else (crawlwayref50_Parse.l1 t2 1 q14>>=fun q49=>match q49 with | .ret r'=>some r' | .nx sq49=>(some (sq49,0))) else none)
set_option maxHeartbeats 3200000 in
theorem crawlwayref50_Parse_ok{x0:ByteArray}{r:S_api_Item×Int}(hF:crawlwayref50_Parse x0=some r):∀ {w0 w:World} {G_:List Ent} {Z_:List Nat} {s_:World} (hw_:Wd w0 (frzE w0 Z_ s_::G_) w),
    Calls Tryz.prog 27 #[.string x0] w (fun e w'=>∃ (Z':List Nat) (s':World) (z:G_api_Item),Mono (KZ w0 Z_) s_ (KZ w0 Z') s'∧e=.returned (.tuple #[.agg (Cd.cs c_api_Item (z,r.1)).toArray,.int .i64 r.2])∧(NK_api_Item (KZ w0 Z') s' (z,r.1))∧Wd w0 (frzE w0 Z' s'::G_) w'):=by
 intro w0 w G_ Z_ s_   hw_
 unfold crawlwayref50_Parse at hF
 refine ce (l:=[.string x0]) func27 rfl rfl ?_
 refine at_enterF hw_ ?_
 clear hw_
 obtain ⟨Z0_,hZ0_⟩:∃ Z0_,Z0_=Z_:=⟨_,rfl⟩
 obtain ⟨s0_,hs0_⟩:∃ s0_,s0_=s_:=⟨_,rfl⟩
 have hM_:Mono (KZ w0 Z0_) s0_ (KZ w0 Z_) s_:=by rw [hZ0_,hs0_];exact Mono.refl _ _
 rw [←hZ0_,←hs0_]
 rw [show frzE w0 Z0_ s0_=frzE w0 Z_ s_ from by rw [hZ0_,hs0_]]
 refine sr ?_
 refine al (cs:=Cd.cs c_api_Item zv10) zeroValue33 ?_
 intro b1
 refine aa (ns (am ?_))
 obtain ⟨t2,ht2,hF⟩:=bM hF
 refine at_callO (c:=cStr) (e:=9) (ys:=t2) (V:=fun p cap=>.slice p t2.length cap) func56 rfl (by kernel_rfl) rfl rfl (fun w hw=>crawlwayref06_Parts_ok _ _ _ ht2 w) ?_
 intro p3 c4
 refine aa (ns ?_)
 refine at_lit (cs:=cStr.all ([⟨#[]⟩,⟨#[115,101,116]⟩,⟨#[108,111,97,100]⟩,⟨#[111,117,116]⟩,⟨#[105,110]⟩,⟨#[105,110,115,116,97,108,108]⟩,⟨#[102,111,114,103,101,116]⟩]:List ByteArray)) underlying38 sizeOf9 zeroValue9 rfl rfl rfl (by kernel_rfl) rfl ?_
 intro b5
 refine aa (ns ?_)
 refine at_lit (cs:=(cInt .i64).all ([0,2,2,3,4,5,2]:List Int)) underlying112 sizeOf3 zeroValue3 rfl rfl rfl (by kernel_rfl) rfl ?_
 intro b6
 refine aa (ns ?_)
 refine al (cs:=Cd.cs c_api_Item zv10) zeroValue33 ?_
 intro b7
 refine nt (qs (sr (aa (nwq [8,7,6,5,4,2] ?_))))
 refine qb ?_
 obtain ⟨q14,hq14,hF⟩:=bM hF
 refine wq [8,7,6,5,4,2] ?_
 refine at_loop_n (B:=0) (A:=fun Y=>∀ (p24:Option Addr) (c25:Nat) (hk26:RowK (KZ w0 Z_) (cInt .u8) s_ p24 c25 q14.f_Bytes) (p27:Option Addr) (c28:Nat) (hk29:RowK (KZ w0 Z_) (cInt .u8) s_ p27 c28 q14.f_Result),At 66 [(2,.pointer (some ⟨b1,0,none⟩)),(4,.slice p3 t2.length c4),(6,.slice (some ⟨b6,0,none⟩) ([0,2,2,3,4,5,2]:List Int).length 7),(7,.pointer (some ⟨b7,0,none⟩))] (Wd w0 (cellsE b7 (Cd.cs c_api_Item (((p24,c25),(p27,c28)),q14)) 33::cellsE b6 ((cInt .i64).all ([0,2,2,3,4,5,2]:List Int)) 3::rowE cStr 9 p3 c4 t2::cellsE b1 (Cd.cs c_api_Item zv10) 33::frzE w0 Z_ s_::G_)) Y) ?_ ?_
 ·intro K
  refine crawlwayref50_Parse.l0.partial_correctness t2 (motive:=fun i15 i17 x=>KN (fun Y=>∀ (p24:Option Addr) (c25:Nat) (hk26:RowK (KZ w0 Z_) (cInt .u8) s_ p24 c25 x.f_Bytes) (p27:Option Addr) (c28:Nat) (hk29:RowK (KZ w0 Z_) (cInt .u8) s_ p27 c28 x.f_Result),At 66 [(2,.pointer (some ⟨b1,0,none⟩)),(4,.slice p3 t2.length c4),(6,.slice (some ⟨b6,0,none⟩) ([0,2,2,3,4,5,2]:List Int).length 7),(7,.pointer (some ⟨b7,0,none⟩))] (Wd w0 (cellsE b7 (Cd.cs c_api_Item (((p24,c25),(p27,c28)),x)) 33::cellsE b6 ((cInt .i64).all ([0,2,2,3,4,5,2]:List Int)) 3::rowE cStr 9 p3 c4 t2::cellsE b1 (Cd.cs c_api_Item zv10) 33::frzE w0 Z_ s_::G_)) Y) _ 0→Round (fun Y=>∀ (p18:Option Addr) (c19:Nat) (hk20:RowK (KZ w0 Z_) (cInt .u8) s_ p18 c19 (i17.f_Bytes)) (p21:Option Addr) (c22:Nat) (hk23:RowK (KZ w0 Z_) (cInt .u8) s_ p21 c22 (i17.f_Result)),At 66 [(2,.pointer (some ⟨b1,0,none⟩)),(4,.slice p3 t2.length c4),(5,.slice (some ⟨b5,0,none⟩) ([⟨#[]⟩,⟨#[115,101,116]⟩,⟨#[108,111,97,100]⟩,⟨#[111,117,116]⟩,⟨#[105,110]⟩,⟨#[105,110,115,116,97,108,108]⟩,⟨#[102,111,114,103,101,116]⟩]:List ByteArray).length 7),(6,.slice (some ⟨b6,0,none⟩) ([0,2,2,3,4,5,2]:List Int).length 7),(7,.pointer (some ⟨b7,0,none⟩)),(8,.int .i64 i15)] (Wd w0 (cellsE b7 (Cd.cs c_api_Item (((p18,c19),(p21,c22)),i17)) 33::cellsE b6 ((cInt .i64).all ([0,2,2,3,4,5,2]:List Int)) 3::cellsE b5 (cStr.all ([⟨#[]⟩,⟨#[115,101,116]⟩,⟨#[108,111,97,100]⟩,⟨#[111,117,116]⟩,⟨#[105,110]⟩,⟨#[105,110,115,116,97,108,108]⟩,⟨#[102,111,114,103,101,116]⟩]:List ByteArray)) 9::rowE cStr 9 p3 c4 t2::cellsE b1 (Cd.cs c_api_Item zv10) 33::frzE w0 Z_ s_::G_)) Y) _ _ _) ?_ _ _ _ hq14 K none 0 (RowK.nil ..) none 0 (RowK.nil ..)
  ·clear K hF
   intro g ih i15 i17 x hF K p18 c19 hk20 p21 c22 hk23
   refine at_round ?_
   refine qs (sr (am ?_))
   refine aw (r_ileq rfl rfl) ?_
   refine nwq [17,8,7,6,5,4,2] ?_
   obtain ⟨h30,hF⟩|⟨h30,hF⟩:=oi hF
   ·refine ct h30 ?_
    refine sn (qs ?_)
    refine qb ?_
    refine qs (wq [8,7,6,5,4,2] ?_)
    obtain ⟨h31,hF⟩:=gd hF
    obtain ⟨h32,hF⟩:=gd hF
    refine at_pure (φ:=∃ b o,p3=some ⟨b,o,none⟩) (fun _ hw=>row_ptr (hw.own (.s (.s (.s .z)))).row h32) ?_
    rintro ⟨b34,o35,hp33⟩
    refine at_inv [.q 20 (fun g36=>.slice (some ⟨b5,0,none⟩) ([⟨#[]⟩,⟨#[115,101,116]⟩,⟨#[108,111,97,100]⟩,⟨#[111,117,116]⟩,⟨#[105,110]⟩,⟨#[105,110,115,116,97,108,108]⟩,⟨#[102,111,114,103,101,116]⟩]:List ByteArray).length 7) [] 0 0,.q 21 (fun g36=>.int .i64 i15) [] 0 0,.q 22 (fun g36=>.pointer (some ⟨b5,0+Int.toNat i15*1,none⟩)) [0,1] 0 0,.q 23 (fun g36=>.string (lget ([⟨#[]⟩,⟨#[115,101,116]⟩,⟨#[108,111,97,100]⟩,⟨#[111,117,116]⟩,⟨#[105,110]⟩,⟨#[105,110,115,116,97,108,108]⟩,⟨#[102,111,114,103,101,116]⟩]:List ByteArray) i15)) [2] 0 0,.q 24 (fun g36=>.slice p3 t2.length c4) [] 0 0,.q 25 (fun g36=>.pointer (some ⟨b34,o35+Int.toNat 0*1,none⟩)) [4] 0 0,.q 26 (fun g36=>.string (lget t2 0)) [5] 0 0,.q 27 (fun g36=>.bool (seq (lget ([⟨#[]⟩,⟨#[115,101,116]⟩,⟨#[108,111,97,100]⟩,⟨#[111,117,116]⟩,⟨#[105,110]⟩,⟨#[105,110,115,116,97,108,108]⟩,⟨#[102,111,114,103,101,116]⟩]:List ByteArray) i15) (lget t2 0))) [3,6] 0 0] (fun g36 s=>match s with | _=>(Wd w0 (cellsE b7 (Cd.cs c_api_Item (((p18,c19),(p21,c22)),i17)) 33::cellsE b6 ((cInt .i64).all ([0,2,2,3,4,5,2]:List Int)) 3::cellsE b5 (cStr.all ([⟨#[]⟩,⟨#[115,101,116]⟩,⟨#[108,111,97,100]⟩,⟨#[111,117,116]⟩,⟨#[105,110]⟩,⟨#[105,110,115,116,97,108,108]⟩,⟨#[102,111,114,103,101,116]⟩]:List ByteArray)) 9::rowE cStr 9 p3 c4 t2::cellsE b1 (Cd.cs c_api_Item zv10) 33::frzE w0 Z_ s_::G_))) 0 (by kernel_rfl) (by kernel_rfl) (by kernel_rfl) (by kernel_rfl) (by kernel_rfl) ⟨fun _ _ _=>rfl,fun _ _ _=>rfl,fun _ _ _=>rfl,fun _ _ _=>rfl,fun _ _ _=>rfl,fun _ _ _=>rfl,fun _ _ _=>rfl,fun _ _ _=>rfl,trivial⟩ (by kernel_rfl) (fun w_ h=>⟨fun _=>g3 0 none 0 none w_,h.drew⟩) ⟨?_,?_,?_,?_,?_,?_,?_,?_,trivial⟩ ?_
    ·intro Lx g36 s K hl hh k
     show At 66 ((2,_)::(4,_)::(5,_)::(6,_)::(7,_)::(8,_)::Lx) _ _
     refine am ?_
     exact at_nil k
    ·intro Lx g36 s K hl hh k
     show At 66 ((2,_)::(4,_)::(5,_)::(6,_)::(7,_)::(8,_)::Lx) _ _
     refine am ?_
     exact at_nil k
    ·intro Lx g36 s K hl hh k
     show At 66 ((20,_)::(21,_)::(2,_)::(4,_)::(5,_)::(6,_)::(7,_)::(8,_)::Lx) _ _
     refine aw (r_idx underlying38 sizeOf9 rfl rfl h31 rfl) ?_
     exact at_nil k
    ·intro Lx g36 s K hl hh k
     show At 66 ((22,_)::(2,_)::(4,_)::(5,_)::(6,_)::(7,_)::(8,_)::Lx) _ _
     obtain rfl:s=0:=by omega
     refine aw (r_load_cell isAgg9 rfl (fun _ hw=>row_cell0 (W:=fun w1=>w1=_) (fun w1 h=>by subst h;exact Below.refl _ _) (cells_row (hw.ok (Upd.mem (.s (.s .z))))) h31 rfl rfl _ rfl)) ?_
     exact at_nil k
    ·intro Lx g36 s K hl hh k
     show At 66 ((2,_)::(4,_)::(5,_)::(6,_)::(7,_)::(8,_)::Lx) _ _
     refine am ?_
     exact at_nil k
    ·intro Lx g36 s K hl hh k
     show At 66 ((24,_)::(2,_)::(4,_)::(5,_)::(6,_)::(7,_)::(8,_)::Lx) _ _
     refine aw (r_idx underlying38 sizeOf9 rfl rfl h32 hp33) ?_
     exact at_nil k
    ·intro Lx g36 s K hl hh k
     show At 66 ((25,_)::(2,_)::(4,_)::(5,_)::(6,_)::(7,_)::(8,_)::Lx) _ _
     obtain rfl:s=0:=by omega
     refine aw (r_load_cell isAgg9 rfl (fun _ hw=>row_cell0 (W:=fun w1=>w1=_) (fun w1 h=>by subst h;exact Below.refl _ _) (hw.own (.s (.s (.s .z)))).row h32 hp33 rfl _ rfl)) ?_
     exact at_nil k
    ·intro Lx g36 s K hl hh k
     show At 66 ((23,_)::(26,_)::(2,_)::(4,_)::(5,_)::(6,_)::(7,_)::(8,_)::Lx) _ _
     refine aw (r_seql rfl rfl) ?_
     exact at_nil k
    intro g36
    show At 66 [(20,_),(21,_),(22,_),(23,_),(24,_),(25,_),(26,_),(27,_),(2,_),(4,_),(5,_),(6,_),(7,_),(8,_)] _ _
    refine wq [27,8,7,6,5,4,2] ?_
    refine tn ?_
    obtain ⟨h37,hF⟩|⟨h37,hF⟩:=oi hF
    ·refine ct h37 ?_
     refine qr (am (fa 0 underlying33 rfl sizeOf3 ?_))
     refine at_store (c:=(cInt .i64)) (z:=i15) .z (c_api_Item_f_Kind ((p18,c19),(p21,c22)) i17) sizeOf3 rfl rfl rfl ?_
     refine qn (wq [8,7,6,5,4,2] ?_)
     refine bm ?_
     refine qr (am (aw xa (aa (nwq [8,7,6,5,4,2] ?_))))
     exact at_weak_k (ih _ _ _ hF K p18 c19 hk20 p21 c22 hk23) ⟨rfl,rfl,rfl,rfl,rfl,rfl,trivial⟩
    refine cf h37 ?_
    refine at_skip ?_
    refine bm ?_
    refine qr (am (aw xa (aa (nwq [8,7,6,5,4,2] ?_))))
    exact at_weak_k (ih _ _ _ hF K p18 c19 hk20 p21 c22 hk23) ⟨rfl,rfl,rfl,rfl,rfl,rfl,trivial⟩
   refine cf h30 ?_
   refine at_exit ?_
   refine te (te ?_)
   refine at_drop (H:=_) (.s (.s .z)) ?_
   obtain rfl:=os hF
   exact at_weak_k (K p18 c19 hk20 p21 c22 hk23) ⟨rfl,rfl,rfl,rfl,trivial⟩
 skip
 intro p24 c25 hk26 p27 c28 hk29
 refine at_blk_same ?_
 refine tn (qs (sr (fa 0 underlying33 rfl sizeOf3 ?_)))
 refine aw (r_load_cell isAgg3 rfl (lens_cell0 (c:=(cInt .i64)) (y:=q14.f_Kind) .z (c_api_Item_f_Kind ((p24,c25),(p27,c28)) q14) rfl)) ?_
 refine aw xq (nwq [32,7,6,4,2] ?_)
 obtain ⟨h38,hF⟩|⟨h38,hF⟩:=oi hF
 ·refine ct h38 ?_
  refine sr ?_
  refine aw (r_load_aggc (c:=c_api_Item) (z:=(((p24,c25),(p27,c28)),q14)) isAgg33 sizeOf33 rfl (lens_cell .z lw)) ?_
  refine at_store (c:=c_api_Item) (z:=(((p24,c25),(p27,c28)),q14)) (.s (.s (.s .z))) lw sizeOf33 rfl rfl rfl ?_
  refine aa (qn (dz (dz (dz (wq [3,2] ?_)))))
  refine tn (rt ?_)
  have hN39:NK_api_Item (KZ w0 Z_) s_ (((p24,c25),(p27,c28)),q14):=⟨hk26,hk29⟩
  have K:=os hF
  subst K
  exact at_res2 rfl (res_cell (c:=c_api_Item) (y:=(((p24,c25),(p27,c28)),q14)) rfl .z lw isAgg33 sizeOf33 (.inl rfl)) (res_tmp rfl) (fun w1 hw=>⟨Z_,s_,((p24,c25),(p27,c28)),hM_,rfl,hN39,hw.pop⟩)
 refine cf h38 ?_
 refine sn (qs (sr (am ?_)))
 refine aw (r_len_sl underlying38 rfl) ?_
 refine am (fa 0 underlying33 rfl sizeOf3 ?_)
 refine aw (r_load_cell isAgg3 rfl (lens_cell0 (c:=(cInt .i64)) (y:=q14.f_Kind) .z (c_api_Item_f_Kind ((p24,c25),(p27,c28)) q14) rfl)) ?_
 obtain ⟨h40,hF⟩:=gd hF
 refine aw (r_idx underlying112 sizeOf3 rfl rfl h40 rfl) ?_
 refine aw (r_load_cell isAgg3 rfl (fun _ hw=>row_cell0 (W:=fun w1=>w1=_) (fun w1 h=>by subst h;exact Below.refl _ _) (cells_row (hw.ok (Upd.mem (.s .z)))) h40 rfl rfl _ rfl)) ?_
 refine aw xn (qn ?_)
 refine at_drop (H:=_) (.s .z) ?_
 refine wq [41,7,4,2] ?_
 refine tn ?_
 obtain ⟨h41,hF⟩|⟨h41,hF⟩:=oi hF
 ·refine ct h41 ?_
  refine sr ?_
  refine aw (r_build_struct (zs:=Cd.cs c_api_Item zv10) (cs:=Cd.cs c_api_Item zv10) underlying33 zeroValue33 rfl (places_api_Item_33) rfl rfl) ?_
  refine at_store (c:=c_api_Item) (z:=zv10) (.s (.s .z)) lw sizeOf33 rfl rfl rfl ?_
  refine aa (qn (dz (dz (wq [3,2] ?_))))
  refine tn (rt ?_)
  have hN42:NK_api_Item (KZ w0 Z_) s_ zv10:=⟨RowK.nil ..,RowK.nil ..⟩
  have K:=os hF
  subst K
  exact at_res2 rfl (res_cell (c:=c_api_Item) (y:=zv10) rfl .z lw isAgg33 sizeOf33 (.inl rfl)) (res_tmp rfl) (fun w1 hw=>⟨Z_,s_,zv9,hM_,rfl,hN42,hw.pop⟩)
 refine cf h41 ?_
 refine sn (qs (sr (aa (nwq [9,7,4,2] ?_))))
 refine qb ?_
 obtain ⟨q49,hq49,hF⟩:=bM hF
 refine wq [9,7,4,2] ?_
 refine at_loop_r (B:=2) (r:=r) (q:=q49) (A:=fun sq49 Y=>∀ (Z_:List Nat) (s_:World) (hM_:Mono (KZ w0 Z0_) s0_ (KZ w0 Z_) s_) (hk26:RowK (KZ w0 Z_) (cInt .u8) s_ p24 c25 q14.f_Bytes) (hk29:RowK (KZ w0 Z_) (cInt .u8) s_ p27 c28 q14.f_Result) (p58:Option Addr) (c59:Nat) (hk60:RowK (KZ w0 Z_) (cInt .u8) s_ p58 c59 sq49.f_Bytes) (p61:Option Addr) (c62:Nat) (hk63:RowK (KZ w0 Z_) (cInt .u8) s_ p61 c62 sq49.f_Result),At 66 [(2,.pointer (some ⟨b1,0,none⟩)),(7,.pointer (some ⟨b7,0,none⟩))] (Wd w0 (cellsE b7 (Cd.cs c_api_Item (((p58,c59),(p61,c62)),sq49)) 33::cellsE b1 (Cd.cs c_api_Item zv10) 33::frzE w0 Z_ s_::G_)) Y) ?_ ?_
 ·intro K
  refine crawlwayref50_Parse.l1.partial_correctness t2 (motive:=fun i50 i51 x=>KR (fun sq49 Y=>∀ (Z_:List Nat) (s_:World) (hM_:Mono (KZ w0 Z0_) s0_ (KZ w0 Z_) s_) (hk26:RowK (KZ w0 Z_) (cInt .u8) s_ p24 c25 q14.f_Bytes) (hk29:RowK (KZ w0 Z_) (cInt .u8) s_ p27 c28 q14.f_Result) (p58:Option Addr) (c59:Nat) (hk60:RowK (KZ w0 Z_) (cInt .u8) s_ p58 c59 sq49.f_Bytes) (p61:Option Addr) (c62:Nat) (hk63:RowK (KZ w0 Z_) (cInt .u8) s_ p61 c62 sq49.f_Result),At 66 [(2,.pointer (some ⟨b1,0,none⟩)),(7,.pointer (some ⟨b7,0,none⟩))] (Wd w0 (cellsE b7 (Cd.cs c_api_Item (((p58,c59),(p61,c62)),sq49)) 33::cellsE b1 (Cd.cs c_api_Item zv10) 33::frzE w0 Z_ s_::G_)) Y) _ 2 r x→Round (fun Y=>∀ (Z_:List Nat) (s_:World) (hM_:Mono (KZ w0 Z0_) s0_ (KZ w0 Z_) s_) (hk26:RowK (KZ w0 Z_) (cInt .u8) s_ p24 c25 q14.f_Bytes) (hk29:RowK (KZ w0 Z_) (cInt .u8) s_ p27 c28 q14.f_Result) (p52:Option Addr) (c53:Nat) (hk54:RowK (KZ w0 Z_) (cInt .u8) s_ p52 c53 (i51.f_Bytes)) (p55:Option Addr) (c56:Nat) (hk57:RowK (KZ w0 Z_) (cInt .u8) s_ p55 c56 (i51.f_Result)),At 66 [(2,.pointer (some ⟨b1,0,none⟩)),(4,.slice p3 t2.length c4),(7,.pointer (some ⟨b7,0,none⟩)),(9,.int .i64 i50)] (Wd w0 (cellsE b7 (Cd.cs c_api_Item (((p52,c53),(p55,c56)),i51)) 33::rowE cStr 9 p3 c4 t2::cellsE b1 (Cd.cs c_api_Item zv10) 33::frzE w0 Z_ s_::G_)) Y) _ _ _) ?_ _ _ _ hq49 K Z_ s_ hM_ hk26 hk29 p24 c25 hk26 p27 c28 hk29
  ·clear K hF
   intro g ih i50 i51 x hF K Z_ s_ hM_ hk26 hk29 p52 c53 hk54 p55 c56 hk57
   refine at_round ?_
   refine qs (sr (am (am ?_)))
   refine aw (r_len_sl underlying38 rfl) ?_
   refine aw xl (nwq [46,9,7,4,2] ?_)
   obtain ⟨h64,hF⟩|⟨h64,hF⟩:=oi hF
   ·refine ct h64 ?_
    refine sn (qs ?_)
    refine qb ?_
    refine qs (wq [9,7,4,2] ?_)
    refine at_optPush (b:=0) (cs:=(Cd.cs c_api_Item zv10)) (t:=33) ?_
    obtain ⟨h66,hF⟩:=gd hF
    refine at_pure (φ:=∃ b o,p3=some ⟨b,o,none⟩) (fun _ hw=>row_ptr (hw.own (.s (.s .z))).row h66) ?_
    rintro ⟨b68,o69,hp67⟩
    obtain ⟨t71,ht71,hF⟩:=bM hF
    refine at_invF [.q 50 (fun g78=>.agg (Cd.cs c_api_Item (((p52,c53),(p55,c56)),i51)).toArray) [] 0 0,.q 51 (fun g78=>.int .i64 i50) [] 0 0,.q 52 (fun g78=>.int .i64 (wr .i64 (i50-1))) [1] 0 0,.q 53 (fun g78=>.slice p3 t2.length c4) [] 0 0,.q 54 (fun g78=>.int .i64 i50) [] 0 0,.q 55 (fun g78=>.pointer (some ⟨b68,o69+Int.toNat i50*1,none⟩)) [3,4] 0 0,.q 56 (fun g78=>.string (lget t2 i50)) [5] 0 0,.al 0 57 (fun g78=>.tuple #[.agg (Cd.cs c_api_Item (((((g78 0).2.2.2.2.2.2 0),((g78 0).2.2.2.2.2.2 1))),t71.1)).toArray,.int .i64 t71.2]) [0,2,6],.q 49 (fun g78=>.tuple #[.agg (Cd.cs c_api_Item (((((g78 0).2.2.2.2.2.2 0),((g78 0).2.2.2.2.2.2 1))),t71.1)).toArray,.int .i64 t71.2]) [7] 1 1,.q 58 (fun g78=>.agg (Cd.cs c_api_Item (((((g78 0).2.2.2.2.2.2 0),((g78 0).2.2.2.2.2.2 1))),t71.1)).toArray) [8] 1 1,.q 59 (fun g78=>.int .i64 t71.2) [8] 1 2,.q 10 (fun g78=>.pointer (some ⟨((g78 13).1),0,none⟩)) [] 0 1,.st 1 none [11,9],.q 11 (fun g78=>.int .i64 t71.2) [10] 2 2] (fun g78 s=>match s with | 0=>(Wd w0 (optE ((g78 13).2.2.1) ((g78 13).1) (Cd.cs c_api_Item zv10) 33::cellsE b7 (Cd.cs c_api_Item (((p52,c53),(p55,c56)),i51)) 33::rowE cStr 9 p3 c4 t2::cellsE b1 (Cd.cs c_api_Item zv10) 33::frzE w0 Z_ s_::G_)) | 1=>(Wd w0 (factE (NK_api_Item (KZ w0 ((g78 0).2.2.2.2.1)) ((g78 0).2.2.2.2.2.1) (((((g78 0).2.2.2.2.2.2 0),((g78 0).2.2.2.2.2.2 1))),t71.1))::factE (NK_api_Item (KZ w0 ((g78 0).2.2.2.2.1)) ((g78 0).2.2.2.2.2.1) (((p52,c53),(p55,c56)),i51))::factE (RowK (KZ w0 ((g78 0).2.2.2.2.1)) (cInt .u8) ((g78 0).2.2.2.2.2.1) p55 c56 (i51.f_Result))::factE (RowK (KZ w0 ((g78 0).2.2.2.2.1)) (cInt .u8) ((g78 0).2.2.2.2.2.1) p52 c53 (i51.f_Bytes))::factE (RowK (KZ w0 ((g78 0).2.2.2.2.1)) (cInt .u8) ((g78 0).2.2.2.2.2.1) p27 c28 q14.f_Result)::factE (RowK (KZ w0 ((g78 0).2.2.2.2.1)) (cInt .u8) ((g78 0).2.2.2.2.2.1) p24 c25 q14.f_Bytes)::factE (Mono (KZ w0 Z0_) s0_ (KZ w0 ((g78 0).2.2.2.2.1)) ((g78 0).2.2.2.2.2.1))::frzE w0 ((g78 0).2.2.2.2.1) ((g78 0).2.2.2.2.2.1)::optE ((g78 13).2.2.1) ((g78 13).1) (Cd.cs c_api_Item zv10) 33::cellsE b7 (Cd.cs c_api_Item (((p52,c53),(p55,c56)),i51)) 33::rowE cStr 9 p3 c4 t2::cellsE b1 (Cd.cs c_api_Item zv10) 33::G_)) | _=>(Wd w0 (factE (NK_api_Item (KZ w0 ((g78 0).2.2.2.2.1)) ((g78 0).2.2.2.2.2.1) (((((g78 0).2.2.2.2.2.2 0),((g78 0).2.2.2.2.2.2 1))),t71.1))::factE (NK_api_Item (KZ w0 ((g78 0).2.2.2.2.1)) ((g78 0).2.2.2.2.2.1) (((p52,c53),(p55,c56)),i51))::factE (RowK (KZ w0 ((g78 0).2.2.2.2.1)) (cInt .u8) ((g78 0).2.2.2.2.2.1) p55 c56 (i51.f_Result))::factE (RowK (KZ w0 ((g78 0).2.2.2.2.1)) (cInt .u8) ((g78 0).2.2.2.2.2.1) p52 c53 (i51.f_Bytes))::factE (RowK (KZ w0 ((g78 0).2.2.2.2.1)) (cInt .u8) ((g78 0).2.2.2.2.2.1) p27 c28 q14.f_Result)::factE (RowK (KZ w0 ((g78 0).2.2.2.2.1)) (cInt .u8) ((g78 0).2.2.2.2.2.1) p24 c25 q14.f_Bytes)::factE (Mono (KZ w0 Z0_) s0_ (KZ w0 ((g78 0).2.2.2.2.1)) ((g78 0).2.2.2.2.2.1))::frzE w0 ((g78 0).2.2.2.2.1) ((g78 0).2.2.2.2.2.1)::cellsE ((g78 13).1) (Cd.cs c_api_Item (((((g78 0).2.2.2.2.2.2 0),((g78 0).2.2.2.2.2.2 1))),t71.1)) 33::cellsE b7 (Cd.cs c_api_Item (((p52,c53),(p55,c56)),i51)) 33::rowE cStr 9 p3 c4 t2::cellsE b1 (Cd.cs c_api_Item zv10) 33::G_))) 2 [false,false,false,false,false,false,false,false,false,false,false,true,false,false] [[],[],[],[],[],[],[],[],[],[],[],[],[11],[11]] (by kernel_rfl) (by kernel_rfl) (by kernel_rfl) (by kernel_rfl) (by kernel_rfl) ⟨fun _ _ _ _ _=>rfl,fun _ _ _ _ _=>rfl,fun _ _ _ _ _=>rfl,fun _ _ _ _ _=>rfl,fun _ _ _ _ _=>rfl,fun _ _ _ _ _=>rfl,fun _ _ _ _ _=>rfl,fun g78 g2 h h2 _=>by show (.tuple #[.agg (Cd.cs c_api_Item (((((g78 0).2.2.2.2.2.2 0),((g78 0).2.2.2.2.2.2 1))),t71.1)).toArray,.int .i64 t71.2]:Value)=.tuple #[.agg (Cd.cs c_api_Item (((((g2 0).2.2.2.2.2.2 0),((g2 0).2.2.2.2.2.2 1))),t71.1)).toArray,.int .i64 t71.2];rw [h 0 (show 0<1 by decide)],fun g78 g2 h h2 _=>by show (.tuple #[.agg (Cd.cs c_api_Item (((((g78 0).2.2.2.2.2.2 0),((g78 0).2.2.2.2.2.2 1))),t71.1)).toArray,.int .i64 t71.2]:Value)=.tuple #[.agg (Cd.cs c_api_Item (((((g2 0).2.2.2.2.2.2 0),((g2 0).2.2.2.2.2.2 1))),t71.1)).toArray,.int .i64 t71.2];rw [h 0 (show 0<1 by decide)],fun g78 g2 h h2 _=>by show (.agg (Cd.cs c_api_Item (((((g78 0).2.2.2.2.2.2 0),((g78 0).2.2.2.2.2.2 1))),t71.1)).toArray:Value)=.agg (Cd.cs c_api_Item (((((g2 0).2.2.2.2.2.2 0),((g2 0).2.2.2.2.2.2 1))),t71.1)).toArray;rw [h 0 (show 0<1 by decide)],fun _ _ _ _ _=>rfl,fun g78 g2 _ _ h3=>by show (.pointer (some ⟨((g78 13).1),0,none⟩):Value)=.pointer (some ⟨((g2 13).1),0,none⟩);rw [h3 rfl],fun _ _ _ _ _=>rfl,fun _ _ _ _ _=>rfl,trivial⟩ (by kernel_rfl) (by kernel_rfl) (fun w_ h=>⟨fun _=>g3 0 none 0 none w_,fun _=>Nat.zero_ne_one,h.drew⟩) ⟨?_,?_,?_,?_,?_,?_,?_,?_,?_,?_,?_,?_,?_,?_,trivial⟩ ?_
    ·intro Lx g78 s K hf_ hl hh k
     show At 66 ((2,_)::(4,_)::(7,_)::(9,_)::Lx) _ _
     obtain rfl:s=0:=by omega
     refine aw (r_load_aggc (c:=c_api_Item) (z:=(((p52,c53),(p55,c56)),i51)) isAgg33 sizeOf33 rfl (lens_cell (.s .z) lw)) ?_
     exact at_nil k
    ·intro Lx g78 s K hf_ hl hh k
     show At 66 ((2,_)::(4,_)::(7,_)::(9,_)::Lx) _ _
     refine am ?_
     exact at_nil k
    ·intro Lx g78 s K hf_ hl hh k
     show At 66 ((51,_)::(2,_)::(4,_)::(7,_)::(9,_)::Lx) _ _
     refine aw (r_isub rfl rfl) ?_
     exact at_nil k
    ·intro Lx g78 s K hf_ hl hh k
     show At 66 ((2,_)::(4,_)::(7,_)::(9,_)::Lx) _ _
     refine am ?_
     exact at_nil k
    ·intro Lx g78 s K hf_ hl hh k
     show At 66 ((2,_)::(4,_)::(7,_)::(9,_)::Lx) _ _
     refine am ?_
     exact at_nil k
    ·intro Lx g78 s K hf_ hl hh k
     show At 66 ((53,_)::(54,_)::(2,_)::(4,_)::(7,_)::(9,_)::Lx) _ _
     refine aw (r_idx underlying38 sizeOf9 rfl rfl h66 hp67) ?_
     exact at_nil k
    ·intro Lx g78 s K hf_ hl hh k
     show At 66 ((55,_)::(2,_)::(4,_)::(7,_)::(9,_)::Lx) _ _
     obtain rfl:s=0:=by omega
     refine aw (r_load_cell isAgg9 rfl (fun _ hw=>row_cell0 (W:=fun w1=>w1=_) (fun w1 h=>by subst h;exact Below.refl _ _) (hw.own (.s (.s .z))).row h66 hp67 rfl _ rfl)) ?_
     exact at_nil k
    ·intro Lx g78 K hf_ k
     show At 66 ((50,_)::(52,_)::(56,_)::(2,_)::(4,_)::(7,_)::(9,_)::Lx) _ _
     have hN70:NK_api_Item (KZ w0 Z_) s_ (((p52,c53),(p55,c56)),i51):=⟨hk54,hk57⟩
     refine at_front (.s (.s (.s .z))) ?_
     refine at_front (.s (.s (.s .z))) ?_
     refine at_front (.s (.s (.s .z))) ?_
     refine at_front (.s (.s (.s .z))) ?_
     refine at_front (.s (.s (.s (.s .z)))) ?_
     refine at_callZ (γ:=G_api_Item) (V:=fun z=>.tuple #[.agg (Cd.cs c_api_Item (z,t71.1)).toArray,.int .i64 t71.2]) (Φ:=fun K s z=>NK_api_Item K s (z,t71.1)) func57 rfl (by kernel_rfl) rfl rfl (fun w hw=>crawlwayref50_take_ok ht71 hN70 hw) ?_
     intro Z72 s73 g75 hm74 hk76
     replace hM_:=Mono.mono hM_ hm74
     replace hk26:=RowK.mono hk26 hm74
     replace hk29:=RowK.mono hk29 hm74
     replace hk54:=RowK.mono hk54 hm74
     replace hk57:=RowK.mono hk57 hm74
     replace hN70:=NK_api_Item.mono hN70 hm74
     refine at_fact hM_ ?_
     refine at_fact hk26 ?_
     refine at_fact hk29 ?_
     refine at_fact hk54 ?_
     refine at_fact hk57 ?_
     refine at_fact hN70 ?_
     refine at_fact hk76 ?_
     exact at_nil (k (0,none,0,none,Z72,s73,fun i_=>match i_ with | 0=>g75.1 | 1=>g75.2 | _=>(none,0)))
    ·intro Lx g78 s K hf_ hl hh k
     show At 66 ((57,_)::(2,_)::(4,_)::(7,_)::(9,_)::Lx) _ _
     refine am ?_
     exact at_nil k
    ·intro Lx g78 s K hf_ hl hh k
     show At 66 ((49,_)::(2,_)::(4,_)::(7,_)::(9,_)::Lx) _ _
     refine aw xe ?_
     exact at_nil k
    ·intro Lx g78 s K hf_ hl hh k
     show At 66 ((49,_)::(2,_)::(4,_)::(7,_)::(9,_)::Lx) _ _
     refine aw xe ?_
     exact at_nil k
    ·intro Lx g78 s K hl hf_ k
     show At 66 ((2,_)::(4,_)::(7,_)::(9,_)::Lx) _ _
     rcases (by omega:s=0∨s=1) with rfl | rfl
     ·skip
      refine al (cs:=Cd.cs c_api_Item zv10) zeroValue33 ?_
      intro b77
      refine at_optNew (fl':=1) .z hf_ rfl ?_
      exact at_nil (k (g3 b77 none 1 none w0) rfl)
     skip
     refine al (cs:=Cd.cs c_api_Item zv10) zeroValue33 ?_
     intro b77
     refine at_optNew (fl':=1) (.s (.s (.s (.s (.s (.s (.s (.s .z)))))))) hf_ rfl ?_
     exact at_nil (k (g3 b77 none 1 none w0) rfl)
    ·intro Lx g78 K hf_ k
     show At 66 ((10,_)::(58,_)::(2,_)::(4,_)::(7,_)::(9,_)::Lx) _ _
     refine at_optIn (.s (.s (.s (.s (.s (.s (.s (.s .z)))))))) (hf_ 11 (by decide)) ?_
     refine at_store (c:=c_api_Item) (z:=(((((g78 0).2.2.2.2.2.2 0),((g78 0).2.2.2.2.2.2 1))),t71.1)) (.s (.s (.s (.s (.s (.s (.s (.s .z)))))))) lw sizeOf33 rfl rfl rfl ?_
     exact at_nil k
    ·intro Lx g78 s K hf_ hl hh k
     show At 66 ((59,_)::(2,_)::(4,_)::(7,_)::(9,_)::Lx) _ _
     refine aa ?_
     exact at_nil k
    intro g78 hf_
    show At 66 [(50,_),(51,_),(52,_),(53,_),(54,_),(55,_),(56,_),(57,_),(49,_),(58,_),(59,_),(10,_),(11,_),(2,_),(4,_),(7,_),(9,_)] _ _
    refine at_pure (φ:=NK_api_Item (KZ w0 ((g78 0).2.2.2.2.1)) ((g78 0).2.2.2.2.2.1) (((((g78 0).2.2.2.2.2.2 0),((g78 0).2.2.2.2.2.2 1))),t71.1)) (fun _ hw=>hw.ok (Upd.mem .z)) ?_
    intro hk76
    refine at_pure (φ:=NK_api_Item (KZ w0 ((g78 0).2.2.2.2.1)) ((g78 0).2.2.2.2.2.1) (((p52,c53),(p55,c56)),i51)) (fun _ hw=>hw.ok (Upd.mem (.s .z))) ?_
    intro hN70
    refine at_pure (φ:=RowK (KZ w0 ((g78 0).2.2.2.2.1)) (cInt .u8) ((g78 0).2.2.2.2.2.1) p55 c56 (i51.f_Result)) (fun _ hw=>hw.ok (Upd.mem (.s (.s .z)))) ?_
    intro hk57
    refine at_pure (φ:=RowK (KZ w0 ((g78 0).2.2.2.2.1)) (cInt .u8) ((g78 0).2.2.2.2.2.1) p52 c53 (i51.f_Bytes)) (fun _ hw=>hw.ok (Upd.mem (.s (.s (.s .z))))) ?_
    intro hk54
    refine at_pure (φ:=RowK (KZ w0 ((g78 0).2.2.2.2.1)) (cInt .u8) ((g78 0).2.2.2.2.2.1) p27 c28 q14.f_Result) (fun _ hw=>hw.ok (Upd.mem (.s (.s (.s (.s .z)))))) ?_
    intro hk29
    refine at_pure (φ:=RowK (KZ w0 ((g78 0).2.2.2.2.1)) (cInt .u8) ((g78 0).2.2.2.2.2.1) p24 c25 q14.f_Bytes) (fun _ hw=>hw.ok (Upd.mem (.s (.s (.s (.s (.s .z))))))) ?_
    intro hk26
    refine at_pure (φ:=Mono (KZ w0 Z0_) s0_ (KZ w0 ((g78 0).2.2.2.2.1)) ((g78 0).2.2.2.2.2.1)) (fun _ hw=>hw.ok (Upd.mem (.s (.s (.s (.s (.s (.s .z)))))))) ?_
    intro hM_
    refine dz (dz (dz (dz (dz (dz (dz (tn (qs ?_))))))))
    refine sr (am (aw xn (nwq [61,11,10,9,7,4,2] ?_)))
    obtain ⟨h79,hF⟩|⟨h79,hF⟩:=oi hF
    ·refine ct h79 ?_
     refine sr ?_
     refine aw (r_build_struct (zs:=Cd.cs c_api_Item zv10) (cs:=Cd.cs c_api_Item zv10) underlying33 zeroValue33 rfl (places_api_Item_33) rfl rfl) ?_
     refine am ?_
     refine at_store (c:=c_api_Item) (z:=zv10) (.s (.s (.s (.s .z)))) lw sizeOf33 rfl rfl rfl ?_
     refine aa (qn ?_)
     refine at_drop (H:=_) (.s .z) ?_
     refine at_drop (H:=_) (.s .z) ?_
     refine at_drop (H:=_) (.s .z) ?_
     refine wq [3,2] ?_
     refine tn (qt ?_)
     refine tr (br (tr (tr (br (tr ?_)))))
     have hN80:NK_api_Item (KZ w0 ((g78 0).2.2.2.2.1)) ((g78 0).2.2.2.2.2.1) zv10:=⟨RowK.nil ..,RowK.nil ..⟩
     refine at_front (.s .z) ?_
     obtain rfl:=os hF
     subst K
     exact at_res2 rfl (res_cell (c:=c_api_Item) (y:=zv10) rfl .z lw isAgg33 sizeOf33 (.inl rfl)) (res_tmp rfl) (fun w1 hw=>⟨(g78 0).2.2.2.2.1,(g78 0).2.2.2.2.2.1,zv9,hM_,rfl,hN80,hw.pop⟩)
    refine cf h79 ?_
    refine sn (qr ?_)
    refine aw (r_load_aggc (c:=c_api_Item) (z:=((((g78 0).2.2.2.2.2.2 0),((g78 0).2.2.2.2.2.2 1)),t71.1)) isAgg33 sizeOf33 rfl (lens_cell (.s .z) lw)) ?_
    refine at_store (c:=c_api_Item) (z:=((((g78 0).2.2.2.2.2.2 0),((g78 0).2.2.2.2.2.2 1)),t71.1)) (.s (.s .z)) lw sizeOf33 rfl rfl rfl ?_
    refine qn ?_
    refine at_drop (H:=_) (.s .z) ?_
    refine wq [9,7,4,2] ?_
    refine bm ?_
    refine qr (am (aw xa (aa (nwq [9,7,4,2] ?_))))
    refine at_front (.s (.s (.s .z))) ?_
    refine at_front (.s (.s (.s .z))) ?_
    refine at_front (.s (.s (.s .z))) ?_
    exact at_weak_k (ih _ _ _ hF K ((g78 0).2.2.2.2.1) ((g78 0).2.2.2.2.2.1) hM_ hk26 hk29 (((((g78 0).2.2.2.2.2.2 0),((g78 0).2.2.2.2.2.2 1)).1).1) (((((g78 0).2.2.2.2.2.2 0),((g78 0).2.2.2.2.2.2 1)).1).2) hk76.1 (((((g78 0).2.2.2.2.2.2 0),((g78 0).2.2.2.2.2.2 1)).2).1) (((((g78 0).2.2.2.2.2.2 0),((g78 0).2.2.2.2.2.2 1)).2).2) hk76.2) ⟨rfl,rfl,rfl,rfl,trivial⟩
   refine cf h64 ?_
   refine at_exit ?_
   refine te (te ?_)
   refine at_drop (H:=_) (.s .z) ?_
   obtain rfl:=os hF
   exact at_weak_k (K Z_ s_ hM_ hk26 hk29 p52 c53 hk54 p55 c56 hk57) ⟨rfl,rfl,trivial⟩
 cases q49 with
 | ret r'=>exact os hF
 | nx sq49 =>
  intro Z_ s_ hM_ hk26 hk29 p58 c59 hk60 p61 c62 hk63
  refine at_blk_same ?_
  refine tn (sr ?_)
  refine aw (r_load_aggc (c:=c_api_Item) (z:=(((p58,c59),(p61,c62)),sq49)) isAgg33 sizeOf33 rfl (lens_cell .z lw)) ?_
  refine at_store (c:=c_api_Item) (z:=(((p58,c59),(p61,c62)),sq49)) (.s .z) lw sizeOf33 rfl rfl rfl ?_
  refine aa (qn (dz (wq [3,2] ?_)))
  refine tn (qt ?_)
  have hN81:NK_api_Item (KZ w0 Z_) s_ (((p58,c59),(p61,c62)),sq49):=⟨hk60,hk63⟩
  have K:=os hF
  subst K
  exact at_res2 rfl (res_cell (c:=c_api_Item) (y:=(((p58,c59),(p61,c62)),sq49)) rfl .z lw isAgg33 sizeOf33 (.inl rfl)) (res_tmp rfl) (fun w1 hw=>⟨Z_,s_,((p58,c59),(p61,c62)),hM_,rfl,hN81,hw.pop⟩)
end Go.Proofs.YtkkmmpofdcccmaaGreatDoor
