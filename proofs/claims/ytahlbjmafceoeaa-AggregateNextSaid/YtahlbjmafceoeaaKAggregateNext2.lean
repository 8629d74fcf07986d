/- Texts of this claim, those in one that belong together; printed by a program of this project. -/
import Derived.Test.YtahlbjmafceoeaaProg
import Derived.Test.YtahlbjmafceoeaaKAggregateNext1
set_option linter.unusedVariables false
set_option linter.unusedSimpArgs false
namespace Go.Proofs.Ytahlbjmafceoeaa.Agg
open E Go.RowKit Adr Cid
theorem lget_mid{α:Type}[Inhabited α](A:List α)(x:α)(B:List α):lget (A++x::B) (A.length:Int)=x:=by simp [lget]
theorem in_mid{α:Type}(A:List α)(x:α)(B:List α):(0:Int)≤(A.length:Int)∧(A.length:Int)<((A++x::B).length:Int):=by simp;omega
theorem wr_mid{α:Type}(A:List α)(x:α)(h:A.length≤1000000):wr .i64 ((A.length:Int)+1)=((A++[x]).length:Int):=by rw [wr_i64 (by omega) (by omega)];simp
theorem not_lt_end{α:Type}(A:List α):decide ((A.length:Int)<((A++[]).length:Int))=false:=by simp
def rgt(x:S_api_Prefix):Bool:=(cidr_Right x).getD false
theorem idx_loop(p:S_api_Prefix→Bool):∀ (B A:List S_api_Prefix),(∀ x∈A++B,aggregate_Ranges_1 x=some (!p x))→(A++B).length≤1000000 →
  (∃ (C:List S_api_Prefix) (y:S_api_Prefix) (D:List S_api_Prefix),B=C++y::D∧(∀ x∈C,p x=true)∧p y=false∧slices_IndexFunc_api_Prefix__aggregate_Ranges_1.l0 (A++B) (A.length:Int)=some (.ret ((A++C).length:Int))) ∨
  ((∀ x∈B,p x=true)∧slices_IndexFunc_api_Prefix__aggregate_Ranges_1.l0 (A++B) (A.length:Int)=some (.nx ()))
 | [],A,hp,hn=>by
  right
  refine ⟨fun x hx=>(by cases hx),?_⟩
  rw [slices_IndexFunc_api_Prefix__aggregate_Ranges_1.l0.eq_def,not_lt_end,if_neg Bool.false_ne_true]
 | b::B,A,hp,hn=>by
  rw [slices_IndexFunc_api_Prefix__aggregate_Ranges_1.l0.eq_def,decide_eq_true (in_mid A b B).2,if_pos rfl,if_pos (in_mid A b B),lget_mid,hp b (by simp),bindM_some]
  cases h:p b with
  | false =>
   left
   refine ⟨[],b,B,rfl,fun x hx=>(by cases hx),h,?_⟩
   rw [if_pos (show (!false)=true from rfl),List.append_nil]
  | true =>
   rw [if_neg (by decide),wr_mid A b (by simp at hn;omega)]
   have e:A++b::B=(A++[b])++B:=by simp
   rw [e]
   rcases idx_loop p B (A++[b]) (by rw [←e];exact hp) (by rw [←e];exact hn) with ⟨C,y,D,h1,h2,h3,h4⟩ | ⟨h1,h2⟩
   ·left
    refine ⟨b::C,y,D,by rw [h1];rfl,fun x hx=>?_,h3,by rw [h4];simp⟩
    rcases List.mem_cons.1 hx with rfl | hx
    ·exact h
    ·exact h2 x hx
   ·right
    refine ⟨fun x hx=>?_,h2⟩
    rcases List.mem_cons.1 hx with rfl | hx
    ·exact h
    ·exact h1 x hx
theorem del_loop(p:S_api_Prefix→Bool):∀ (B W G:List S_api_Prefix),(∀ x∈B,aggregate_Ranges_1 x=some (!p x))→(W++(G++B)).length≤1000000→0<G.length →
  ∃ R:List S_api_Prefix,slices_DeleteFunc_api_Prefix__aggregate_Ranges_1.l0 (W++(G++B)) (W.length:Int) ((W.length+G.length:Nat):Int)=some (W++(B.filter p)++R,((W++B.filter p).length:Int))∧(W++B.filter p++R).length=(W++(G++B)).length
 | [],W,G,hp,hn,hg=>by
  refine ⟨G,?_,by simp⟩
  rw [slices_DeleteFunc_api_Prefix__aggregate_Ranges_1.l0.eq_def,decide_eq_false (by simp),if_neg Bool.false_ne_true]
  simp
 | b::B,W,G,hp,hn,hg=>by
  obtain ⟨g,G,rfl⟩:∃ g G',G=g::G':=by
   cases G with
   | nil=>cases hg
   | cons g G=>exact ⟨g,G,rfl⟩
  have e1:W++(g::G++b::B)=(W++g::G)++b::B:=by simp
  have e2:((W.length+(g::G).length:Nat):Int)=((W++g::G).length:Int):=by simp
  have hl:(W++g::G).length≤1000000:=by simp at hn ⊢;omega
  have hwi:wr .i64 (((W++g::G).length:Int)+1)=((W.length+(g::G).length+1:Nat):Int):=by rw [wr_i64 (by omega) (by omega)];simp
  rw [slices_DeleteFunc_api_Prefix__aggregate_Ranges_1.l0.eq_def,e2,e1,decide_eq_true (in_mid _ b B).2,if_pos rfl,if_pos (in_mid _ b B),lget_mid,hp b (by simp),bindM_some,hwi]
  have hpB:∀ x∈B,aggregate_Ranges_1 x=some (!p x):=fun x hx=>hp x (List.mem_cons_of_mem _ hx)
  cases h:p b with
  | false =>
   rw [if_neg (by decide)]
   obtain ⟨R,h1,h2⟩:=del_loop p B W (g::G++[b]) hpB (by simp at hn ⊢;omega) (by simp)
   refine ⟨R,?_,?_⟩
   ·rw [List.filter_cons_of_neg (by rw [h];decide)]
    rw [←h1]
    have e4:W++g::G++b::B=W++(g::G++[b]++B):=by simp
    have e5:W.length+(g::G).length+1=W.length+(g::G++[b]).length:=by simp;omega
    rw [e4,e5]
   ·rw [List.filter_cons_of_neg (by rw [h];decide),h2];simp
  | true =>
   have hw1:(0:Int)≤(W.length:Int)∧(W.length:Int)<((W++g::G++b::B).length:Int):=by simp;omega
   have hset:lset (W++g::G++b::B) (W.length:Int) b=(W++[b])++((G++[b])++B):=by simp [lset]
   have hw2:wr .i64 ((W.length:Int)+1)=((W++[b]).length:Int):=by rw [wr_i64 (by simp at hn;omega) (by simp at hn;omega)];simp
   rw [if_pos (by decide),if_pos hw1,hset,hw2]
   obtain ⟨R,h1,h2⟩:=del_loop p B (W++[b]) (G++[b]) hpB (by simp at hn ⊢;omega) (by simp)
   refine ⟨R,?_,?_⟩
   ·rw [List.filter_cons_of_pos h]
    have e3:((W.length+(g::G).length+1:Nat):Int)=(((W++[b]).length+(G++[b]).length:Nat):Int):=by simp;omega
    rw [e3,h1];simp
   ·rw [List.filter_cons_of_pos h]
    simp at h2 ⊢;omega
theorem del_code(p:S_api_Prefix→Bool)(xs:List S_api_Prefix)(hp:∀ x∈xs,aggregate_Ranges_1 x=some (!p x))(hn:xs.length≤1000000):slices_DeleteFunc_api_Prefix__aggregate_Ranges_1 xs=some (xs.filter p):=by
 unfold slices_DeleteFunc_api_Prefix__aggregate_Ranges_1 slices_IndexFunc_api_Prefix__aggregate_Ranges_1
 rcases idx_loop p xs [] hp hn with ⟨C,y,D,h1,h2,h3,h4⟩ | ⟨h1,h2⟩
 ·rw [List.nil_append,List.nil_append] at h4
  have h4':slices_IndexFunc_api_Prefix__aggregate_Ranges_1.l0 xs 0=some (.ret (C.length:Int)):=h4
  rw [h4',bindM_some,bindM_some]
  have hne:((C.length:Int) == -1)=false:=by rw [beq_eq_false_iff_ne];omega
  have hCl:C.length<xs.length:=by rw [h1];simp
  have hwi:wr .i64 ((C.length:Int)+1)=((C.length+[y].length:Nat):Int):=by rw [wr_i64 (by omega) (by omega)];simp
  obtain ⟨R,h5,h6⟩:=del_loop p D C [y] (fun x hx=>hp x (by rw [h1];simp [hx])) (by rw [h1] at hn;simpa using hn) (by simp)
  have hfil:xs.filter p=C++D.filter p:=by
   rw [h1,List.filter_append,List.filter_cons_of_neg (by rw [h3];decide),List.filter_eq_self.2 h2]
  show (if ((C.length:Int) == -1)=true then _ else _)=_
  have e:xs=C++([y]++D):=by rw [h1];rfl
  rw [hne,if_neg Bool.false_ne_true,hwi]
  conv=>lhs;lhs;rw [e]
  rw [h5,bindM_some]
  have hq:(C++D.filter p).length≤(C++D.filter p++R).length:=by simp
  have htk:List.take (C++D.filter p).length (C++D.filter p++R)=C++D.filter p:=List.take_left ..
  show (if (0:Int)≤((C++D.filter p).length:Int)∧((C++D.filter p).length:Int)≤((C++D.filter p++R).length:Int)∧_ then _ else none)=_
  rw [if_pos ⟨by omega,by omega,Int.le_refl _⟩]
  show (if (0:Int)≤((C++D.filter p).length:Int)∧((C++D.filter p).length:Int)≤((List.take (Int.toNat ((C++D.filter p).length:Int)) (C++D.filter p++R)++_).length:Int) then some (List.take (Int.toNat ((C++D.filter p).length:Int)) (List.take (Int.toNat ((C++D.filter p).length:Int)) (C++D.filter p++R)++_)) else none)=_
  rw [Int.toNat_natCast,htk,if_pos ⟨by omega,by simp;omega⟩,List.take_left,hfil]
 ·have h2':slices_IndexFunc_api_Prefix__aggregate_Ranges_1.l0 xs 0=some (.nx ()):=h2
  rw [h2',bindM_some]
  show some xs=_
  rw [List.filter_eq_self.2 h1]
theorem lessP_prf{V W:Int}{N M k j:Nat}(hN:N<2 ^ wd V)(hM:M<2 ^ wd W):lessP (prf V N k) (prf W M j)=if V=W∧N=M then decide (((wd V-k:Nat):Int)<((wd W-j:Nat):Int)) else ltA V N W M:=by
 have h1:=(adr_less hN hM).1
 rw [less_key] at h1
 unfold lessP
 show (if adr V N=adr W M then decide (((wd V-k:Nat):Int)<((wd W-j:Nat):Int)) else lessK (adr V N) (adr W M))=_
 simp only [adr_inj hN hM]
 split
 ·rfl
 ·exact Option.some.inj h1
theorem less11{V W:Int}{N M k j:Nat}(hN:N<2 ^ wd V)(hM:M<2 ^ wd W):crawlwayref11_Less (prf V N k) (prf W M j)=some (lessP (prf V N k) (prf W M j)):=by
 rw [lessP_prf hN hM]
 unfold crawlwayref11_Less
 show (if (!decide (adr V N=adr W M))=true then (crawlwayref10_Less (adr V N) (adr W M)>>=fun t4=>some t4) else (some (decide (((wd V-k:Nat):Int)<((wd W-j:Nat):Int)))))=_
 rw [(adr_less hN hM).2,bindM_some]
 by_cases h:V=W∧N=M
 ·rw [if_pos h,decide_eq_true ((adr_inj hN hM).2 h),if_neg (by decide)]
 ·rw [if_neg h,decide_eq_false (mt (adr_inj hN hM).1 h),if_pos (by decide)]
structure Good (t:Int×Nat×Nat):Prop where
 fam:fam t.1
 lt:t.2.1<2 ^ wd t.1
 le:t.2.2≤wd t.1
 dvd:2 ^ t.2.2 ∣ t.2.1
def pf(t:Int×Nat×Nat):S_api_Prefix:=prf t.1 t.2.1 t.2.2
theorem okb_vb{l:List UInt8}(hl:l.length=16):okb (vb l)=true:=by
 unfold okb
 rw [vb_toList hl]
 unfold ob
 rw [List.all_map]
 refine List.all_eq_true.2 fun b _=>?_
 have:=b.toNat_lt
 simp;omega
theorem ok_prf(V:Int)(N k:Nat):okP (prf V N k):=okb_vb (bt_len V N)
theorem right_rows(xs:List S_api_Prefix)(hx:∀ x∈xs,ok_api_Prefix x):∃ p:S_api_Prefix→Bool,(∀ x∈xs,cidr_Right x=some (p x)∧crawlwayref11_Right x=some (p x))∧∃ T:List (Int×Nat×Nat),(∀ t∈T,Good t)∧xs.filter p=T.map pf:=by
 refine ⟨rgt,fun x h=>?_,?_⟩
 ·obtain ⟨V,l,b,rfl,hl,_⟩:=exists_mkP x (hx x h)
  unfold rgt
  rw [cright_code hl,cright_ref hl];exact ⟨rfl,rfl⟩
 ·have hall:∀ x∈xs.filter rgt,∃ t,Good t∧x=pf t:=fun x h=>by
   obtain ⟨h1,h2⟩:=List.mem_filter.1 h
   obtain ⟨V,l,b,rfl,hl,_⟩:=exists_mkP x (hx x h1)
   unfold rgt at h2
   rw [cright_code hl] at h2
   obtain ⟨hf,N,k,a1,a2,a3,a4⟩:=right_prf hl h2
   exact ⟨(V,N,k),⟨hf,a1,a2,a3⟩,a4⟩
  generalize xs.filter rgt=ys at hall
  induction ys with
  | nil=>exact ⟨[],fun t h=>(by cases h),rfl⟩
  | cons y ys ih =>
   obtain ⟨t,h1,h2⟩:=hall y (List.mem_cons_self ..)
   obtain ⟨T,h3,h4⟩:=ih fun x hx=>hall x (List.mem_cons_of_mem _ hx)
   refine ⟨t::T,fun u hu=>?_,by rw [List.map_cons,←h2,←h4]⟩
   rcases List.mem_cons.1 hu with rfl | hu
   ·exact h1
   ·exact h3 u hu
theorem ins_at{α:Type}{lt:α→α→Bool}{x:α}:∀ (A B:List α),(∀ y∈A,lt x y=false)→(∀ y∈B,lt x y=true)→ins lt x (A++B)=A++x::B
 | [],B,_,hb=>by
  cases B with
  | nil=>rfl
  | cons b B=>show (if lt x b=true then x::b::B else b::ins lt x B)=_;rw [if_pos (hb b (List.mem_cons_self ..))];rfl
 | a::A,B,ha,hb=>by
  show (if lt x a=true then x::a::(A++B) else a::ins lt x (A++B))=_
  rw [if_neg (by rw [ha a (List.mem_cons_self ..)];decide),ins_at A B (fun y hy=>ha y (List.mem_cons_of_mem _ hy)) hb];rfl
theorem pos_loop(xs:List S_api_Prefix)(i:Nat)(x:S_api_Prefix)(hi:(0:Int)≤(i:Int)∧(i:Int)<(xs.length:Int))(hx:lget xs (i:Int)=x)(kx:okP x)(out:List S_api_Prefix)(hout:∀ y∈out,okP y∧crawlwayref11_Less x y=some (lessP x y))(hup:Up lessP out)(hn:out.length≤1000000) :
  ∀ (A B:List S_api_Prefix),out=A++B→(∀ y∈B,lessP x y=true)→∃ A' B',out=A'++B'∧crawlwayref53_sorted.l1 xs out (i:Int) (A.length:Int)=some (A'.length:Int)∧ins lessP x out=A'++x::B':=by
 intro A
 induction hA:A.length generalizing A with
 | zero =>
  intro B h1 h2
  have:A=[]:=List.eq_nil_of_length_eq_zero hA
  subst this
  refine ⟨[],B,h1,?_,?_⟩
  ·rw [crawlwayref53_sorted.l1.eq_def,decide_eq_false (by simp),if_neg Bool.false_ne_true];rfl
  ·rw [h1];exact ins_at [] B (fun y hy=>by cases hy) h2
 | succ n ih =>
  intro B h1 h2
  obtain ⟨A',a,rfl⟩:∃ A' a,A=A'++[a]:=⟨A.dropLast,A.getLast (by intro e;subst e;cases hA),(List.dropLast_concat_getLast _).symm⟩
  have hA':A'.length=n:=by simpa using hA
  have e1:out=A'++a::B:=by rw [h1];simp
  have hn2:A'.length+1≤1000000:=by rw [e1] at hn;simp at hn;omega
  have hwi:wr .i64 (((n+1:Nat):Int)-1)=(A'.length:Int):=by rw [wr_i64 (by omega) (by omega)];omega
  have hin:(0:Int)≤(A'.length:Int)∧(A'.length:Int)<(out.length:Int):=by rw [e1];exact in_mid A' a B
  have hga:lget out (A'.length:Int)=a:=by rw [e1];exact lget_mid A' a B
  have ha:=hout a (by rw [e1];simp)
  rw [crawlwayref53_sorted.l1.eq_def,decide_eq_true (by omega),if_pos rfl,if_pos hi,hwi,if_pos hin,hx,hga,ha.2,bindM_some]
  cases hl:lessP x a with
  | true =>
   rw [if_pos rfl,hA']
   exact ih A' hA' (a::B) e1 fun y hy=>by
    rcases List.mem_cons.1 hy with rfl | hy
    ·exact hl
    ·exact h2 y hy
  | false =>
   rw [if_neg Bool.false_ne_true]
   refine ⟨A'++[a],B,h1,by simp [hA'],?_⟩
   rw [h1]
   refine ins_at (A'++[a]) B (fun y hy=>?_) h2
   rcases List.mem_append.1 hy with hy | hy
   ·have hya:lessP a y=false:=by
     have h3:Up lessP (A'++a::B):=e1▸hup
     exact (List.pairwise_append.1 h3).2.2 y hy a (List.mem_cons_self ..)
    exact lessP_swo.ntrans x a y kx ha.1 (hout y (by rw [e1];simp [hy])).1 hl hya
   ·rw [List.mem_singleton.1 hy];exact hl
def IsPf(x:S_api_Prefix):Prop:=∃ t,Good t∧x=pf t
theorem IsPf.ok{x:S_api_Prefix}(h:IsPf x):okP x:=by obtain ⟨t,_,rfl⟩:=h;exact ok_prf _ _ _
theorem IsPf.less{x y:S_api_Prefix}(hx:IsPf x)(hy:IsPf y):crawlwayref11_Less x y=some (lessP x y):=by
 obtain ⟨t,ht,rfl⟩:=hx
 obtain ⟨u,hu,rfl⟩:=hy
 exact less11 ht.lt hu.lt
theorem ins_mem{α:Type}{lt:α→α→Bool}{x y:α}{l:List α}(h:y∈ins lt x l):y=x∨y∈l:=List.mem_cons.1 ((ins_perm lt x l).mem_iff.1 h)
theorem sorted_loop(p:S_api_Prefix→Bool)(xs:List S_api_Prefix)(hn:xs.length≤100000):∀ (B A out:List S_api_Prefix),xs=A++B→(∀ x∈B,crawlwayref11_Right x=some (p x))→(∀ x∈B,p x=true→IsPf x)→(∀ y∈out,IsPf y)→Up lessP out→out.length≤A.length →
  crawlwayref53_sorted.l0 xs out (A.length:Int)=some ((B.filter p).foldl (fun o x=>ins lessP x o) out)
 | [],A,out,hx,hp,hk,ho,hu,hlen=>by
  rw [hx,crawlwayref53_sorted.l0.eq_def,not_lt_end,if_neg Bool.false_ne_true];rfl
 | b::B,A,out,hx,hp,hk,ho,hu,hlen=>by
  have hxl:A.length<xs.length:=by rw [hx];simp
  have hin:(0:Int)≤(A.length:Int)∧(A.length:Int)<(xs.length:Int):=by omega
  have hg:lget xs (A.length:Int)=b:=by rw [hx];exact lget_mid A b B
  have hwi:wr .i64 ((A.length:Int)+1)=((A++[b]).length:Int):=wr_mid A b (by omega)
  have hpB:=fun x hx=>hp x (List.mem_cons_of_mem b hx)
  have hkB:=fun x hx=>hk x (List.mem_cons_of_mem b hx)
  have hxB:xs=(A++[b])++B:=by rw [hx];simp
  have hAl:(A++[b]).length=A.length+1:=by simp
  rw [crawlwayref53_sorted.l0.eq_def,decide_eq_true hin.2,if_pos rfl,if_pos hin,hg,hp b (List.mem_cons_self ..),bindM_some]
  cases h:p b with
  | false =>
   rw [if_pos (by decide),hwi,List.filter_cons_of_neg (by rw [h];decide)]
   exact sorted_loop p xs hn B (A++[b]) out hxB hpB hkB ho hu (by omega)
  | true =>
   have hb:=hk b (List.mem_cons_self ..) h
   obtain ⟨A',B',e1,e2,e3⟩:=pos_loop xs A.length b hin hg hb.ok out (fun y hy=>⟨(ho y hy).ok,hb.less (ho y hy)⟩) hu (by omega) out [] (by simp) (fun y hy=>(by cases hy))
   have hl1:A'.length≤out.length:=by rw [e1];simp
   have hs1:lsub out 0 (A'.length:Int)=A':=by
    unfold lsub
    rw [Int.toNat_natCast,Int.toNat_zero,List.drop_zero,e1,List.take_left]
   have hs2:lsub out (A'.length:Int) (out.length:Int)=B':=by
    unfold lsub
    rw [Int.toNat_natCast,Int.toNat_natCast,List.take_length,e1,List.drop_left]
   have hBl:A'.length+B'.length=out.length:=by rw [e1];simp
   rw [if_neg (by decide),e2,bindM_some,if_pos ⟨Int.le_refl _,by omega,by omega⟩,hs1,if_pos (by simp;omega),if_pos hin,if_pos (by simp;omega),if_pos ⟨by omega,by omega,Int.le_refl _⟩,hs2,if_pos (by simp;omega),hwi]
   have e4:([]:List S_api_Prefix)++A'++[b]++B'=ins lessP b out:=by rw [e3];simp
   rw [e4,List.filter_cons_of_pos h,List.foldl_cons]
   refine sorted_loop p xs hn B (A++[b]) (ins lessP b out) hxB hpB hkB (fun y hy=>?_) (ins_up lessP_swo hb.ok (fun y hy=>(ho y hy).ok) hu) ?_
   ·rcases ins_mem hy with rfl | hy
    ·exact hb
    ·exact ho y hy
   ·have:=(ins_perm lessP b out).length_eq
    rw [List.length_cons] at this;omega
theorem sorted_ref(p:S_api_Prefix→Bool)(xs:List S_api_Prefix)(hn:xs.length≤100000)(hp:∀ x∈xs,crawlwayref11_Right x=some (p x))(hk:∀ x∈xs,p x=true→IsPf x):crawlwayref53_sorted xs=some (isort lessP (xs.filter p)):=by
 unfold crawlwayref53_sorted isort
 have:=sorted_loop p xs hn xs [] [] rfl hp hk (fun y hy=>(by cases hy)) List.Pairwise.nil (Nat.le_refl _)
 show (crawlwayref53_sorted.l0 xs [] (([]:List S_api_Prefix).length:Int)>>=_)=_
 rw [this];rfl
theorem sorted_code(p:S_api_Prefix→Bool)(xs:List S_api_Prefix)(hn:xs.length≤100000)(hp:∀ x∈xs,cidr_Right x=some (p x))(hk:∀ x∈xs,p x=true→IsPf x) :
  (slices_Clone_api_Prefix xs>>=fun t1=>slices_DeleteFunc_api_Prefix__aggregate_Ranges_1 t1>>=fun t4=>sort_Prefix t4)=some (isort lessP (xs.filter p)):=by
 unfold slices_Clone_api_Prefix
 rw [if_pos (by omega),bindM_some,del_code p xs (fun x hx=>by unfold aggregate_Ranges_1;rw [hp x hx];rfl) (by omega),bindM_some]
 unfold sort_Prefix
 have hl:(xs.filter p).length≤xs.length:=List.length_filter_le ..
 have hall:((xs.filter p).all fun x=>okb x.f_A.f_B)=true:=List.all_eq_true.2 fun x hx=>by
  obtain ⟨h1,h2⟩:=List.mem_filter.1 hx
  exact (hk x h1 h2).ok
 rw [if_pos ⟨hall,by omega⟩]
end Go.Proofs.Ytahlbjmafceoeaa.Agg
namespace Go.Proofs.Ytahlbjmafceoeaa.Agg
open E Go.RowKit Adr Cid
theorem allPf{l:List S_api_Prefix}(h:∀ x∈l,IsPf x):∃ T:List (Int×Nat×Nat),(∀ t∈T,Good t)∧l=T.map pf:=by
 induction l with
 | nil=>exact ⟨[],fun t h=>(by cases h),rfl⟩
 | cons y ys ih =>
  obtain ⟨t,h1,h2⟩:=h y (List.mem_cons_self ..)
  obtain ⟨T,h3,h4⟩:=ih fun x hx=>h x (List.mem_cons_of_mem _ hx)
  refine ⟨t::T,fun u hu=>?_,by rw [List.map_cons,←h2,←h4]⟩
  rcases List.mem_cons.1 hu with rfl | hu
  ·exact h1
  ·exact h3 u hu
abbrev Rg:=Int×Nat×Nat
structure GoodR (r:Rg):Prop where
 fam:fam r.1
 le:r.2.1≤r.2.2
 lt:r.2.2<2 ^ wd r.1
def toR(r:Rg):S_aggregate_Range:=rng r.1 r.2.1 r.2.2
def toV(r:Rg):Vector S_api_Addr 2:=vset (vset (Vector.replicate 2 zA:Vector S_api_Addr 2) 0 (adr r.1 r.2.1)) 1 (adr r.1 r.2.2)
theorem toV0(r:Rg):vget (toV r) 0=adr r.1 r.2.1:=rfl
theorem toV1(r:Rg):vget (toV r) 1=adr r.1 r.2.2:=rfl
theorem vset_toV(r:Rg)(m:Nat):vset (toV r) 1 (adr r.1 m)=toV (r.1,r.2.1,m):=by
 apply Vector.toList_inj.1
 unfold toV
 simp [vset_toList]
def endT(t:Int×Nat×Nat):Nat:=t.2.1+2 ^ t.2.2-1
theorem Good.end_lt{t:Int×Nat×Nat}(h:Good t):endT t<2 ^ wd t.1:=by
 obtain ⟨V,N,k⟩:=t
 obtain ⟨hf,hN,hk,hd⟩:=h
 simp only at hf hN hk hd
 unfold endT
 simp only
 obtain ⟨m,rfl⟩:=hd
 have hp:0<2 ^ k:=Nat.pow_pos (by omega)
 have e:2 ^ wd V=2 ^ k*2 ^ (wd V-k):=by rw [←Nat.pow_add];congr 1;omega
 rw [e] at hN ⊢
 have h1:=Nat.lt_of_mul_lt_mul_left hN
 have h3:2 ^ k*(m+1)≤2 ^ k*2 ^ (wd V-k):=Nat.mul_le_mul_left _ h1
 rw [Nat.mul_add,Nat.mul_one] at h3
 omega
theorem le_endT(t:Int×Nat×Nat):t.2.1≤endT t:=by
 have hp:0<2 ^ t.2.2:=Nat.pow_pos (by omega)
 unfold endT;omega
def stepR:List Rg→Int×Nat×Nat→List Rg
 | [],t=>[(t.1,t.2.1,endT t)]
 | r::rest,t=>if r.1=t.1∧t.2.1≤r.2.2+1 then (r.1,r.2.1,max r.2.2 (endT t))::rest else (t.1,t.2.1,endT t)::r::rest
theorem stepR_cons(r:Rg)(rest:List Rg)(t:Int×Nat×Nat):stepR (r::rest) t=if r.1=t.1∧t.2.1≤r.2.2+1 then (r.1,r.2.1,max r.2.2 (endT t))::rest else (t.1,t.2.1,endT t)::r::rest:=rfl
theorem stepR_good{rv:List Rg}{t:Int×Nat×Nat}(h:∀ r∈rv,GoodR r)(ht:Good t):∀ r∈stepR rv t,GoodR r:=by
 have hn:GoodR (t.1,t.2.1,endT t):=⟨ht.fam,le_endT t,ht.end_lt⟩
 cases rv with
 | nil=>intro r hr;rw [List.mem_singleton.1 hr];exact hn
 | cons r rest =>
  intro x hx
  rw [stepR_cons] at hx
  have hr:=h r (List.mem_cons_self ..)
  split at hx
  ·next hc =>
   rcases List.mem_cons.1 hx with rfl | hx
   ·refine ⟨hr.fam,Nat.le_trans hr.le (Nat.le_max_left ..),Nat.max_lt.2 ⟨hr.lt,?_⟩⟩
    show endT t<2 ^ wd r.1
    rw [hc.1];exact ht.end_lt
   ·exact h x (List.mem_cons_of_mem _ hx)
  ·rcases List.mem_cons.1 hx with rfl | hx
   ·exact hn
   ·exact h x hx
theorem stepR_len(rv:List Rg)(t:Int×Nat×Nat):(stepR rv t).length≤rv.length+1:=by
 cases rv with
 | nil=>simp [stepR]
 | cons r rest=>rw [stepR_cons];split<;>simp
theorem last_pf{t:Int×Nat×Nat}(h:Good t):aggregate_last (pf t)=some (adr t.1 (endT t))∧crawlwayref53_last (pf t)=some (adr t.1 (endT t)):=⟨last_prf h.fam h.le h.dvd,reflast_prf h.fam h.le h.dvd⟩
theorem nx_pair{V:Int}{N:Nat}:(nx V N).2=decide (N+1<2 ^ wd V)∧(N+1<2 ^ wd V→(nx V N).1=adr V (N+1)):=by
 unfold nx
 split
 ·next h=>exact ⟨(decide_eq_true h).symm,fun _=>rfl⟩
 ·next h=>exact ⟨(decide_eq_false h).symm,fun h'=>absurd h' h⟩
theorem joins_code{r:Rg}{t:Int×Nat×Nat}(hr:GoodR r)(ht:Good t):aggregate_joins (toR r) (pf t)=some (decide (r.1=t.1∧t.2.1≤r.2.2+1)):=by
 unfold aggregate_joins
 show (if (r.1 != t.1)=true then some false else (aggregate_Next (adr r.1 r.2.2)>>=fun t4=>if (!t4.2)=true then (some true) else (addr_Less t4.1 (adr t.1 t.2.1)>>=fun t7=>some (!t7))))=_
 by_cases h:r.1=t.1
 ·have:(r.1 != t.1)=false:=by simpa using h
  rw [this,if_neg Bool.false_ne_true,(next_adr hr.fam hr.lt).1,bindM_some,nx_pair.1]
  have htl:=ht.lt
  by_cases hl:r.2.2+1<2 ^ wd r.1
  ·rw [decide_eq_true hl,if_neg (by decide),nx_pair.2 hl,(adr_less hl ht.lt).1,bindM_some]
   unfold ltA
   rw [if_pos h]
   congr 1
   rw [Bool.eq_iff_iff];simp [h]
  ·rw [decide_eq_false hl,if_pos (by decide)]
   rw [←h] at htl
   congr 1
   exact (decide_eq_true ⟨h,by omega⟩).symm
 ·have:(r.1 != t.1)=true:=by simpa using h
  rw [this,if_pos rfl,decide_eq_false (fun e=>h e.1)]
theorem pf_A(t:Int×Nat×Nat):(pf t).f_A=adr t.1 t.2.1:=rfl
theorem rng_lit(V:Int)(N M:Nat):({ { ({ f_From:=({ f_V:=(0:Int),f_B:=(Vector.replicate 16 (0:Int):(Vector Int 16)) }:S_api_Addr),f_To:=({ f_V:=(0:Int),f_B:=(Vector.replicate 16 (0:Int):(Vector Int 16)) }:S_api_Addr) }:S_aggregate_Range) with f_From:=adr V N } with f_To:=adr V M }:S_aggregate_Range)=rng V N M:=rfl
theorem toR_To(r:Rg):(toR r).f_To=adr r.1 r.2.2:=rfl
theorem ranges_loop(S:List (Int×Nat×Nat))(hS:S.length≤100000):∀ (B A:List (Int×Nat×Nat)) (rv:List Rg),S=A++B→(∀ t∈B,Good t)→(∀ r∈rv,GoodR r)→rv.length≤A.length →
  aggregate_Ranges.l0 (S.map pf) (rv.reverse.map toR) (A.length:Int)=some ((B.foldl stepR rv).reverse.map toR)∧crawlwayref53_Ranges.l0 (S.map pf) (rv.reverse.map toV) (A.length:Int)=some ((B.foldl stepR rv).reverse.map toV)
 | [],A,rv,hx,hb,hr,hl=>by
  have hd:decide ((A.length:Int)<((S.map pf).length:Int))=false:=decide_eq_false (by rw [hx];simp)
  rw [aggregate_Ranges.l0.eq_def,crawlwayref53_Ranges.l0.eq_def,hd,if_neg Bool.false_ne_true,if_neg Bool.false_ne_true];exact ⟨rfl,rfl⟩
 | t::B,A,rv,hx,hb,hr,hl=>by
  have ht:=hb t (List.mem_cons_self ..)
  have hSl:S.length=A.length+(B.length+1):=by rw [hx];simp
  have hin:(0:Int)≤(A.length:Int)∧(A.length:Int)<((S.map pf).length:Int):=by rw [List.length_map];omega
  have hg:lget (S.map pf) (A.length:Int)=pf t:=by
   rw [hx,List.map_append,List.map_cons]
   have:=lget_mid (A.map pf) (pf t) (B.map pf)
   rwa [List.length_map] at this
  have hwi:wr .i64 ((A.length:Int)+1)=((A++[t]).length:Int):=wr_mid A t (by omega)
  have hxB:S=(A++[t])++B:=by rw [hx];simp
  have hAl:(A++[t]).length=A.length+1:=by simp
  obtain ⟨la,lr⟩:=last_pf ht
  obtain ⟨i1,i2⟩:=ranges_loop S hS B (A++[t]) (stepR rv t) hxB (fun u hu=>hb u (List.mem_cons_of_mem _ hu)) (stepR_good hr ht) (by have:=stepR_len rv t;omega)
  rw [List.foldl_cons,←i1,←i2]
  rw [aggregate_Ranges.l0.eq_def,crawlwayref53_Ranges.l0.eq_def,decide_eq_true hin.2,if_pos rfl,if_pos rfl,if_pos hin,hg,hwi]
  have hV2:∀ (V:Int) (N M:Nat),vset (vset (Vector.replicate 2 ({ f_V:=(0:Int),f_B:=(Vector.replicate 16 (0:Int):(Vector Int 16)) }:S_api_Addr):(Vector S_api_Addr 2)) 0 (adr V N)) 1 (adr V M)=toV (V,N,M):=fun _ _ _=>rfl
  cases rv with
  | nil =>
   have h0:((([]:List Rg).reverse.map toR).length:Int)=0:=rfl
   have h0':((([]:List Rg).reverse.map toV).length:Int)=0:=rfl
   rw [h0,h0',if_pos (by rfl),if_neg (by decide),if_pos hin,if_pos hin,la,lr,bindM_some,bindM_some,if_pos (by decide),if_pos (by decide),pf_A,rng_lit,hV2]
   exact ⟨rfl,rfl⟩
  | cons r rest =>
   have hrg:=hr r (List.mem_cons_self ..)
   have e1:(r::rest).reverse.map toR=rest.reverse.map toR++[toR r]:=by simp
   have e2:(r::rest).reverse.map toV=rest.reverse.map toV++[toV r]:=by simp
   have hL:(rest.reverse.map toR).length=rest.length:=by simp
   have hL2:(rest.reverse.map toV).length=rest.length:=by simp
   have hrl:rest.length+1≤A.length:=by simpa using hl
   have l1:((rest.reverse.map toR++[toR r]).length:Int)=((rest.length+1:Nat):Int):=by simp
   have l2:((rest.reverse.map toV++[toV r]).length:Int)=((rest.length+1:Nat):Int):=by simp
   have hw:wr .i64 (((rest.length+1:Nat):Int)-1)=(rest.length:Int):=by rw [wr_i64 (by omega) (by omega)];omega
   have hi:(0:Int)≤(rest.length:Int)∧(rest.length:Int)<((rest.length+1:Nat):Int):=by omega
   have g1:lget (rest.reverse.map toR++[toR r]) (rest.length:Int)=toR r:=by rw [←hL];exact lget_mid _ _ []
   have g2:lget (rest.reverse.map toV++[toV r]) (rest.length:Int)=toV r:=by rw [←hL2];exact lget_mid _ _ []
   have s1:∀ y,lset (rest.reverse.map toR++[toR r]) (rest.length:Int) y=rest.reverse.map toR++[y]:=fun y=>by rw [←hL];simp [lset]
   have s2:∀ y,lset (rest.reverse.map toV++[toV r]) (rest.length:Int) y=rest.reverse.map toV++[y]:=fun y=>by rw [←hL2];simp [lset]
   have hz:(((rest.length+1:Nat):Int)==0)=false:=by rw [beq_eq_false_iff_ne];omega
   have hz2:decide (((rest.length+1:Nat):Int)>0)=true:=decide_eq_true (by omega)
   have hn1:(rest.reverse.map toR++[toR r]).length+1≤100001:=by simp;omega
   have hn2:(rest.reverse.map toV++[toV r]).length+1≤100001:=by simp;omega
   have hV:(adr r.1 r.2.1).f_V=r.1:=rfl
   have hV3:(adr t.1 t.2.1).f_V=t.1:=rfl
   have hnew1:∀ (V:Int) (N M:Nat),(rest.reverse.map toR++[toR r])++[rng V N M]=((V,N,M)::r::rest).reverse.map toR:=fun V N M=>by simp [toR]
   have hnew2:∀ (V:Int) (N M:Nat),(rest.reverse.map toV++[toV r])++[toV (V,N,M)]=((V,N,M)::r::rest).reverse.map toV:=fun V N M=>by simp
   obtain ⟨n1,n2⟩:=next_adr hrg.fam hrg.lt
   rw [e1,e2,l1,l2,hz,if_neg Bool.false_ne_true,hw,if_pos hi,g1,joins_code hrg ht,bindM_some,hz2,if_pos rfl,if_pos hi,g2,toV1,n2,bindM_some,if_pos hi,if_pos hin,toV0,hV,pf_A,hV3]
   by_cases hj:r.1=t.1∧t.2.1≤r.2.2+1
   ·have hq:(r.1==t.1)=true:=by simpa using hj.1
    have hend:endT t<2 ^ wd r.1:=by rw [hj.1];exact ht.end_lt
    have hle1:=(adr_less hrg.lt (W:=t.1) ht.end_lt)
    have hlt:ltA r.1 r.2.2 t.1 (endT t)=decide (r.2.2<endT t):=by unfold ltA;rw [if_pos hj.1]
    have hst:stepR (r::rest) t=(r.1,r.2.1,max r.2.2 (endT t))::rest:=by rw [stepR_cons,if_pos hj]
    have hadr:adr t.1 (endT t)=adr r.1 (endT t):=by rw [hj.1]
    rw [decide_eq_true hj,if_neg (by decide),la,bindM_some,if_pos hi,toR_To,hle1.1,bindM_some,hlt,hq,if_pos rfl,nx_pair.1,hst]
    have hfin1:(if decide (r.2.2<endT t)=true then (if (0:Int)≤(rest.length:Int)∧(rest.length:Int)<((rest.length+1:Nat):Int) then aggregate_Ranges.l0 (S.map pf) (lset (rest.reverse.map toR++[toR r]) (rest.length:Int) { toR r with f_To:=adr t.1 (endT t) }) ((A++[t]).length:Int) else none) else aggregate_Ranges.l0 (S.map pf) (rest.reverse.map toR++[toR r]) ((A++[t]).length:Int))=aggregate_Ranges.l0 (S.map pf) (((r.1,r.2.1,max r.2.2 (endT t))::rest).reverse.map toR) ((A++[t]).length:Int):=by
     by_cases hc:r.2.2<endT t
     ·rw [decide_eq_true hc,if_pos rfl,if_pos hi,s1,hadr,Nat.max_eq_right (by omega)]
      congr 1
      simp [toR,rng]
     ·rw [decide_eq_false hc,if_neg Bool.false_ne_true,Nat.max_eq_left (by omega)]
      congr 1
      simp
    have hfin2:(if decide (r.2.2<endT t)=true then (if (0:Int)≤(A.length:Int)∧(A.length:Int)<((S.map pf).length:Int) then crawlwayref53_last (pf t)>>=fun t50=>if (0:Int)≤(rest.length:Int)∧(rest.length:Int)<((rest.length+1:Nat):Int) then crawlwayref53_Ranges.l0 (S.map pf) (lset (rest.reverse.map toV++[toV r]) (rest.length:Int) (vset (toV r) 1 t50)) ((A++[t]).length:Int) else none else none) else crawlwayref53_Ranges.l0 (S.map pf) (rest.reverse.map toV++[toV r]) ((A++[t]).length:Int))=crawlwayref53_Ranges.l0 (S.map pf) (((r.1,r.2.1,max r.2.2 (endT t))::rest).reverse.map toV) ((A++[t]).length:Int):=by
     by_cases hc:r.2.2<endT t
     ·rw [decide_eq_true hc,if_pos rfl,if_pos hin,lr,bindM_some,if_pos hi,hadr,vset_toV,s2,Nat.max_eq_right (by omega)]
      congr 1
      simp
     ·rw [decide_eq_false hc,if_neg Bool.false_ne_true,Nat.max_eq_left (by omega)]
      congr 1
      simp
    refine ⟨hfin1,?_⟩
    by_cases hl:r.2.2+1<2 ^ wd r.1
    ·have htl:=ht.lt
     rw [decide_eq_true hl,if_neg (by decide),if_pos hin,nx_pair.2 hl,(adr_less hl ht.lt).2,bindM_some]
     have:ltA r.1 (r.2.2+1) t.1 t.2.1=false:=by unfold ltA;rw [if_pos hj.1,decide_eq_false (by omega)]
     rw [this,if_pos (by decide),if_pos hi,if_pos hin,lr,bindM_some,hle1.2,bindM_some,hlt]
     rw [lr] at hfin2;exact hfin2
    ·rw [decide_eq_false hl,if_pos (by decide),if_pos hi,if_pos hin,lr,bindM_some,hle1.2,bindM_some,hlt]
     rw [lr] at hfin2;exact hfin2
   ·have hst:stepR (r::rest) t=(t.1,t.2.1,endT t)::r::rest:=by rw [stepR_cons,if_neg hj]
    rw [decide_eq_false hj,if_pos (by decide),la,bindM_some,if_pos (by omega),rng_lit,hnew1,hst]
    refine ⟨rfl,?_⟩
    by_cases hq:r.1=t.1
    ·have hq':(r.1==t.1)=true:=by simpa using hq
     have htl:=ht.lt
     have hl:r.2.2+1<2 ^ wd r.1:=by
      rw [hq]
      have:¬ t.2.1≤r.2.2+1:=fun h=>hj ⟨hq,h⟩
      omega
     rw [hq',if_pos rfl,nx_pair.1,decide_eq_true hl,if_neg (by decide),if_pos hin,nx_pair.2 hl,(adr_less hl ht.lt).2,bindM_some]
     have:ltA r.1 (r.2.2+1) t.1 t.2.1=true:=by unfold ltA;rw [if_pos hq];exact decide_eq_true (by have:¬ t.2.1≤r.2.2+1:=fun h=>hj ⟨hq,h⟩;omega)
     rw [this,if_neg (by decide),if_pos hin,if_pos hin,lr,bindM_some,if_pos (by omega),hV2,hnew2]
    ·have hq':(r.1==t.1)=false:=by simpa using hq
     rw [hq',if_neg Bool.false_ne_true,if_pos hin,if_pos hin,lr,bindM_some,if_pos (by omega),hV2,hnew2]
noncomputable def pcs(r:Rg):List (Nat×Nat):=if h:r.2.2<2 ^ wd r.1∧r.2.1≤r.2.2 then Classical.choose (cov_ex (w:=wd r.1) h.1 h.2) else []
theorem pcs_cov{r:Rg}(h:GoodR r):Cov (wd r.1) r.2.2 r.2.1 (pcs r)∧(pcs r).length≤257:=by
 have hw:=wd_le r.1
 unfold pcs
 rw [dif_pos ⟨h.lt,h.le⟩]
 have:=Classical.choose_spec (cov_ex (w:=wd r.1) h.lt h.le)
 exact ⟨this.1,by omega⟩
theorem pcs_code{r:Rg}(h:GoodR r):aggregate_Prefixes (toR r)=some (toP r.1 (pcs r))∧crawlwayref53_Prefixes (adr r.1 r.2.1) (adr r.1 r.2.2)=some (toP r.1 (pcs r)):=by
 obtain ⟨L,h1,_,h3,h4⟩:=prefixes_code h.fam h.lt h.le
 rw [h1.uniq (pcs_cov h).1] at h3 h4
 exact ⟨h3,h4⟩
noncomputable def covR(rs:List Rg):List S_api_Prefix:=rs.flatMap fun r=>toP r.1 (pcs r)
theorem covR_len:∀ {rs:List Rg},(∀ r∈rs,GoodR r)→(covR rs).length≤257*rs.length
 | [],_=>by simp [covR]
 | r::rs,h=>by
  have h1:=(pcs_cov (h r (List.mem_cons_self ..))).2
  have h2:=covR_len (rs:=rs) fun x hx=>h x (List.mem_cons_of_mem _ hx)
  unfold covR at h2 ⊢
  have h3:(toP r.1 (pcs r)).length=(pcs r).length:=by unfold toP;rw [List.length_map]
  rw [List.flatMap_cons,List.length_append,List.length_cons,h3]
  omega
theorem cover_loop(rs:List Rg)(hS:rs.length≤1000)(hr:∀ r∈rs,GoodR r):∀ (B A:List Rg),rs=A++B →
  aggregate_Cover.l0 (rs.map toR) (covR A) (A.length:Int)=some (covR rs)∧crawlwayref53_Cover.l0 (rs.map toV) (covR A) (A.length:Int)=some (covR rs)
 | [],A,hx=>by
  have hd:decide ((A.length:Int)<((rs.map toR).length:Int))=false:=decide_eq_false (by rw [hx];simp)
  have hd2:decide ((A.length:Int)<((rs.map toV).length:Int))=false:=decide_eq_false (by rw [hx];simp)
  rw [aggregate_Cover.l0.eq_def,crawlwayref53_Cover.l0.eq_def,hd,hd2,if_neg Bool.false_ne_true,if_neg Bool.false_ne_true]
  rw [List.append_nil] at hx
  rw [hx];exact ⟨rfl,rfl⟩
 | r::B,A,hx=>by
  have hrg:=hr r (by rw [hx];simp)
  have hSl:rs.length=A.length+(B.length+1):=by rw [hx];simp
  have hin:(0:Int)≤(A.length:Int)∧(A.length:Int)<((rs.map toR).length:Int):=by rw [List.length_map];omega
  have hin2:(0:Int)≤(A.length:Int)∧(A.length:Int)<((rs.map toV).length:Int):=by rw [List.length_map];omega
  have hg:lget (rs.map toR) (A.length:Int)=toR r:=by
   rw [hx,List.map_append,List.map_cons]
   have:=lget_mid (A.map toR) (toR r) (B.map toR)
   rwa [List.length_map] at this
  have hg2:lget (rs.map toV) (A.length:Int)=toV r:=by
   rw [hx,List.map_append,List.map_cons]
   have:=lget_mid (A.map toV) (toV r) (B.map toV)
   rwa [List.length_map] at this
  have hwi:wr .i64 ((A.length:Int)+1)=((A++[r]).length:Int):=wr_mid A r (by omega)
  obtain ⟨c1,c2⟩:=pcs_code hrg
  have hA:=covR_len (rs:=A) fun x h=>hr x (by rw [hx];simp [h])
  have hp:(toP r.1 (pcs r)).length≤257:=by unfold toP;rw [List.length_map];exact (pcs_cov hrg).2
  have hc:covR A++toP r.1 (pcs r)=covR (A++[r]):=by unfold covR;rw [List.flatMap_append];simp
  obtain ⟨i1,i2⟩:=cover_loop rs hS hr B (A++[r]) (by rw [hx];simp)
  rw [aggregate_Cover.l0.eq_def,crawlwayref53_Cover.l0.eq_def,decide_eq_true hin.2,decide_eq_true hin2.2,if_pos rfl,if_pos rfl,if_pos hin,if_pos hin2,if_pos hin2,hg,hg2,toV0,toV1,c1,c2,bindM_some,bindM_some,if_pos (by omega),if_pos (by omega),hc,hwi]
  exact ⟨i1,i2⟩
structure Res (xs:List S_api_Prefix) (S:List (Int×Nat×Nat)):Prop where
 good:∀ t∈S,Good t
 up:Up lessP (S.map pf)
 len:S.length≤xs.length
 mem:∀ x,x∈S.map pf↔x∈xs∧crawlwayref11_Right x=some true
 srt:crawlwayref53_sorted xs=some (S.map pf)
 rs:aggregate_Ranges xs=some ((S.foldl stepR []).reverse.map toR)
 rr:crawlwayref53_Ranges xs=some ((S.foldl stepR []).reverse.map toV)
 cs:aggregate_Cover xs=some (covR (S.foldl stepR []).reverse)
 cr:crawlwayref53_Cover xs=some (covR (S.foldl stepR []).reverse)
theorem fold_good:∀ (S:List (Int×Nat×Nat)) (rv:List Rg),(∀ t∈S,Good t)→(∀ r∈rv,GoodR r)→(∀ r∈S.foldl stepR rv,GoodR r)∧(S.foldl stepR rv).length≤rv.length+S.length
 | [],rv,_,hr=>⟨hr,by simp⟩
 | t::S,rv,hs,hr=>by
  obtain ⟨h1,h2⟩:=fold_good S (stepR rv t) (fun u hu=>hs u (List.mem_cons_of_mem _ hu)) (stepR_good hr (hs t (List.mem_cons_self ..)))
  have:=stepR_len rv t
  rw [List.foldl_cons]
  exact ⟨h1,by simp;omega⟩
theorem res_of(xs:List S_api_Prefix)(hx:∀ x∈xs,ok_api_Prefix x)(hn:xs.length≤1000):∃ S,Res xs S:=by
 obtain ⟨p,hp,T,hT,hfT⟩:=right_rows xs hx
 have hk:∀ x∈xs,p x=true→IsPf x:=fun x h1 h2=>by
  have:x∈T.map pf:=hfT▸List.mem_filter.2 ⟨h1,h2⟩
  obtain ⟨t,ht,rfl⟩:=List.mem_map.1 this
  exact ⟨t,hT t ht,rfl⟩
 have hmem:∀ x,x∈isort lessP (xs.filter p)↔x∈xs∧p x=true:=fun x=>by rw [(isort_perm _ _).mem_iff,List.mem_filter]
 obtain ⟨S,hS,hSe⟩:=allPf (l:=isort lessP (xs.filter p)) fun x h=>hk x ((hmem x).1 h).1 ((hmem x).1 h).2
 have hup:Up lessP (S.map pf):=by
  rw [←hSe]
  exact isort_up lessP_swo _ fun y hy=>by
   obtain ⟨h1,h2⟩:=List.mem_filter.1 hy
   exact (hk y h1 h2).ok
 have hl:S.length≤xs.length:=by
  have h1:=congrArg List.length hSe
  rw [isort_length,List.length_map] at h1
  rw [←h1];exact List.length_filter_le ..
 have hsr:=sorted_ref p xs (by omega) (fun x h=>(hp x h).2) hk
 have hsc:=sorted_code p xs (by omega) (fun x h=>(hp x h).1) hk
 rw [hSe] at hsr hsc
 obtain ⟨r1,r2⟩:=ranges_loop S (by omega) S [] [] rfl hS (fun r h=>(by cases h)) (Nat.le_refl _)
 have hR:aggregate_Ranges xs=some ((S.foldl stepR []).reverse.map toR):=by
  unfold aggregate_Ranges
  obtain ⟨a,ha,h1⟩:=of_bindM hsc
  obtain ⟨b,hb,h2⟩:=of_bindM h1
  rw [ha,bindM_some,hb,bindM_some,h2,bindM_some]
  show (aggregate_Ranges.l0 (S.map pf) (([]:List Rg).reverse.map toR) (([]:List (Int×Nat×Nat)).length:Int)>>=_)=_
  rw [r1];rfl
 have hR2:crawlwayref53_Ranges xs=some ((S.foldl stepR []).reverse.map toV):=by
  unfold crawlwayref53_Ranges
  rw [hsr,bindM_some]
  show (crawlwayref53_Ranges.l0 (S.map pf) (([]:List Rg).reverse.map toV) (([]:List (Int×Nat×Nat)).length:Int)>>=_)=_
  rw [r2];rfl
 obtain ⟨g1,g2⟩:=fold_good S [] hS fun r h=>(by cases h)
 have g3:(S.foldl stepR []).reverse.length≤1000:=by rw [List.length_reverse];simp at g2;omega
 obtain ⟨c1,c2⟩:=cover_loop (S.foldl stepR []).reverse g3 (fun r h=>g1 r (List.mem_reverse.1 h)) (S.foldl stepR []).reverse [] rfl
 refine ⟨S,hS,hup,hl,fun x=>?_,hsr,hR,hR2,?_,?_⟩
 ·rw [←hSe,hmem]
  constructor
  ·rintro ⟨h1,h2⟩;exact ⟨h1,by rw [(hp x h1).2,h2]⟩
  ·rintro ⟨h1,h2⟩;exact ⟨h1,by rw [(hp x h1).2] at h2;exact Option.some.inj h2⟩
 ·unfold aggregate_Cover
  rw [hR,bindM_some]
  show (aggregate_Cover.l0 _ (covR []) (([]:List Rg).length:Int)>>=_)=_
  rw [c1];rfl
 ·unfold crawlwayref53_Cover
  rw [hR2,bindM_some]
  show (crawlwayref53_Cover.l0 _ (covR []) (([]:List Rg).length:Int)>>=_)=_
  rw [c2];rfl
end Go.Proofs.Ytahlbjmafceoeaa.Agg
namespace Go.Proofs.Ytahlbjmafceoeaa.Agg
open E Go.RowKit Adr Cid
theorem isG_of{w N M k:Nat}(h1:k≤w)(h2:2 ^ k ∣ N)(h3:N+2 ^ k≤M+1)(h4:¬ 2 ^ (k+1) ∣ N∨M+1<N+2 ^ (k+1)):IsG w N M k:=by
 refine ⟨h1,h2,h3,fun j hj hd hf=>?_⟩
 rcases Nat.lt_or_ge k j with h | h
 ·exfalso
  rcases h4 with h4 | h4
  ·exact h4 (Nat.dvd_trans (Nat.pow_dvd_pow 2 h) hd)
  ·have:=Nat.pow_le_pow_right (show 0<2 by omega) (show k+1≤j from h)
   omega
 ·exact h
theorem pf_inj{t u:Int×Nat×Nat}(ht:Good t)(hu:Good u)(h:pf t=pf u):t=u:=by
 obtain ⟨V,N,k⟩:=t
 obtain ⟨W,M,j⟩:=u
 have h1:adr V N=adr W M:=congrArg S_api_Prefix.f_A h
 have h2:((wd V-k:Nat):Int)=((wd W-j:Nat):Int):=congrArg S_api_Prefix.f_Bits h
 obtain ⟨rfl,rfl⟩:=(adr_inj ht.lt hu.lt).1 h1
 have h3:k≤wd V:=ht.le
 have h4:j≤wd V:=hu.le
 simp only at h2
 have:k=j:=by omega
 rw [this]
theorem ok_pf{t:Int×Nat×Nat}(h:Good t):ok_api_Prefix (pf t):=by
 obtain ⟨V,N,k⟩:=t
 have hw:=wd_le V
 refine ⟨⟨?_,?_⟩,?_⟩
 ·rcases h.fam with e | e
  ·show (Lit.int .i64 V).wf=true
   have e:V=4:=e
   rw [e];rfl
  ·show (Lit.int .i64 V).wf=true
   have e:V=6:=e
   rw [e];rfl
 ·intro x hx
  have hx:x∈(vb (bt V N)).toList:=hx
  rw [vb_toList (bt_len V N)] at hx
  obtain ⟨b,_,rfl⟩:=List.mem_map.1 hx
  have:=b.toNat_lt
  simp [Lit.wf,IntKind.min,IntKind.max,IntKind.signed,IntKind.bits]
  omega
 ·show (Lit.int .i64 ((wd V-k:Nat):Int)).wf=true
  simp [Lit.wf,IntKind.min,IntKind.max,IntKind.signed,IntKind.bits]
  omega
theorem pfx1:aggregate_Prefixes (rng 4 167772161 167772164)=some (toP 4 [(167772161,0),(167772162,1),(167772164,0)]):=by
 obtain ⟨L,h1,_,h3,_⟩:=prefixes_code (V:=4) (.inl rfl) (N:=167772161) (M:=167772164) (by decide) (by decide)
 have hc:Cov (wd 4) 167772164 167772161 [(167772161,0),(167772162,1),(167772164,0)] :=
  .step (isG_of (by decide) (by decide) (by decide) (.inl (by decide))) (by decide) (.step (isG_of (by decide) (by decide) (by decide) (.inl (by decide))) (by decide) (.last (isG_of (by decide) (by decide) (by decide) (.inr (by decide))) (by decide)))
 rw [h1.uniq hc] at h3
 exact h3
theorem e1_pf:crawlwaylaw53_alive.e1=pf (4,167772160,23):=by decide +kernel
theorem e0_pf:crawlwaylaw53_alive.e0=pf (4,176160768,23):=by decide +kernel
theorem g0:Good (4,167772160,23):=⟨.inl rfl,by decide,by decide,by decide⟩
theorem g1:Good (4,176160768,23):=⟨.inl rfl,by decide,by decide,by decide⟩
theorem lessP01:lessP (pf (4,167772160,23)) (pf (4,176160768,23))=true:=by
 show lessP (prf 4 167772160 23) (prf 4 176160768 23)=true
 rw [lessP_prf g0.lt g1.lt];decide
theorem cov1:aggregate_Cover [crawlwaylaw53_alive.e0,crawlwaylaw53_alive.e1]=some (toP 4 [(167772160,24)]):=by
 rw [e0_pf,e1_pf]
 obtain ⟨S,h⟩:=res_of [pf (4,176160768,23),pf (4,167772160,23)] (fun x hx=>by
  rcases List.mem_cons.1 hx with rfl | hx
  ·exact ok_pf g1
  ·rw [List.mem_singleton.1 hx];exact ok_pf g0) (by simp)
 have r0:=(prf_right g0.fam g0.le g0.dvd).2
 have r1:=(prf_right g1.fam g1.le g1.dvd).2
 have m0:=(h.mem (pf (4,167772160,23))).2 ⟨by simp,r0⟩
 have m1:=(h.mem (pf (4,176160768,23))).2 ⟨by simp,r1⟩
 have hne:pf (4,167772160,23)≠pf (4,176160768,23):=fun e=>by
  have:=pf_inj g0 g1 e
  cases this
 have hS:S=[(4,167772160,23),(4,176160768,23)]:=by
  have hl:=h.len
  obtain ⟨t,ht,et⟩:=List.mem_map.1 m0
  obtain ⟨u,hu,eu⟩:=List.mem_map.1 m1
  have et:=pf_inj (h.good t ht) g0 et
  have eu:=pf_inj (h.good u hu) g1 eu
  subst et;subst eu
  match S,hl,ht,hu,h.up with
  | [],_,ht,_,_=>cases ht
  | [x],_,ht,hu,_ =>
   have e1:=List.mem_singleton.1 ht
   have e2:=List.mem_singleton.1 hu
   rw [←e2] at e1
   exact absurd (congrArg pf e1) hne
  | [x,y],_,ht,hu,hup =>
   have hup:lessP (pf y) (pf x)=false:=(List.pairwise_cons.1 hup).1 (pf y) (by simp)
   rcases List.mem_cons.1 ht with e1 | e1
   ·rcases List.mem_cons.1 hu with e2 | e2
    ·rw [←e2] at e1
     exact absurd (congrArg pf e1) hne
    ·rw [←e1,←List.mem_singleton.1 e2]
   ·rcases List.mem_cons.1 hu with e2 | e2
    ·rw [←List.mem_singleton.1 e1,←e2,lessP01] at hup
     cases hup
    ·have e1:=List.mem_singleton.1 e1
     rw [←List.mem_singleton.1 e2] at e1
     exact absurd (congrArg pf e1) hne
  | _::_::_::_,hl,_,_,_=>simp at hl
 have hf:S.foldl stepR []=[((4:Int),(167772160:Nat),(184549375:Nat))]:=by rw [hS];decide
 have hg:GoodR ((4:Int),(167772160:Nat),(184549375:Nat)):=⟨.inl rfl,by decide,by decide⟩
 have hc:Cov (wd 4) 184549375 167772160 [(167772160,24)]:=.last (isG_of (by decide) (by decide) (by decide) (.inr (by decide))) (by decide)
 have hp:pcs ((4:Int),(167772160:Nat),(184549375:Nat))=[(167772160,24)]:=(pcs_cov hg).1.uniq hc
 rw [h.cs,hf,List.reverse_singleton]
 unfold covR
 rw [List.flatMap_cons,hp];rfl
theorem alive53:crawlwaylaw53_alive=some true:=by
 unfold crawlwaylaw53_alive
 have hr:({ { ({ f_From:=({ f_V:=(0:Int),f_B:=(Vector.replicate 16 (0:Int):(Vector Int 16)) }:S_api_Addr),f_To:=({ f_V:=(0:Int),f_B:=(Vector.replicate 16 (0:Int):(Vector Int 16)) }:S_api_Addr) }:S_aggregate_Range) with f_From:={ { ({ f_V:=(0:Int),f_B:=(Vector.replicate 16 (0:Int):(Vector Int 16)) }:S_api_Addr) with f_V:=4 } with f_B:=vset (vset (vset (vset (Vector.replicate 16 (0:Int):(Vector Int 16)) 0 10) 1 0) 2 0) 3 1 } } with f_To:={ { ({ f_V:=(0:Int),f_B:=(Vector.replicate 16 (0:Int):(Vector Int 16)) }:S_api_Addr) with f_V:=4 } with f_B:=vset (vset (vset (vset (Vector.replicate 16 (0:Int):(Vector Int 16)) 0 10) 1 0) 2 0) 3 4 } }:S_aggregate_Range)=rng 4 167772161 167772164:=by decide +kernel
 rw [hr,pfx1,bindM_some,cov1,bindM_some]
 decide +kernel
theorem alive_then53:(crawlwaylaw53_alive>>=fun t=>some t)=some true:=by rw [alive53];rfl
end Go.Proofs.Ytahlbjmafceoeaa.Agg
namespace Go.Proofs.Ytahlbjmafceoeaa
open E Go.RowKit _root_.Go.Proofs.Try
def crawlwaylaw53_AggregateNext(x0:S_api_Addr)(x1:S_api_Prefix):Option (Bool) :=
 aggregate_Next x0>>=fun t3=>crawlwayref10_Right x0>>=fun t6=>if t6=true then (crawlwayref53_Next x0>>=fun t8=>aggregate_Of x1>>=fun t9=>if (!decide (t3.1=t8.1))=true then (some false) else (if (t3.2 != t8.2)=true then (some false) else (crawlwayref11_Right x1>>=fun t13=>if (t9.2 != t13)=true then (some false) else (if (!t9.2)=true then (if (decide (t9.1.f_From=({ f_V:=(0:Int),f_B:=(Vector.replicate 16 (0:Int):(Vector Int 16)) }:S_api_Addr)))=true then (if (decide (t9.1.f_To=({ f_V:=(0:Int),f_B:=(Vector.replicate 16 (0:Int):(Vector Int 16)) }:S_api_Addr)))=true then (crawlwaylaw53_alive>>=fun t18=>some t18) else (some false)) else (some false)) else (crawlwayref53_Of x1>>=fun t19=>if (decide (t9.1.f_From=t19.1))=true then (if (decide (t9.1.f_To=t19.2))=true then (crawlwaylaw53_alive>>=fun t24=>some t24) else (some false)) else (some false)))))) else (aggregate_Of x1>>=fun t25=>if (!decide (t3.1=({ f_V:=(0:Int),f_B:=(Vector.replicate 16 (0:Int):(Vector Int 16)) }:S_api_Addr)))=true then (some false) else (if (t3.2 != false)=true then (some false) else (crawlwayref11_Right x1>>=fun t29=>if (t25.2 != t29)=true then (some false) else (if (!t25.2)=true then (if (decide (t25.1.f_From=({ f_V:=(0:Int),f_B:=(Vector.replicate 16 (0:Int):(Vector Int 16)) }:S_api_Addr)))=true then (if (decide (t25.1.f_To=({ f_V:=(0:Int),f_B:=(Vector.replicate 16 (0:Int):(Vector Int 16)) }:S_api_Addr)))=true then (crawlwaylaw53_alive>>=fun t34=>some t34) else (some false)) else (some false)) else (crawlwayref53_Of x1>>=fun t35=>if (decide (t25.1.f_From=t35.1))=true then (if (decide (t25.1.f_To=t35.2))=true then (crawlwaylaw53_alive>>=fun t40=>some t40) else (some false)) else (some false))))))
theorem crawlwaylaw53_AggregateNext_ok(x0:S_api_Addr)(x1:S_api_Prefix)(r:Bool)(hF:crawlwaylaw53_AggregateNext x0 x1=some r)(w:World) :
    Calls Try.prog 5 #[.agg (Cd.cs c_api_Addr x0).toArray,.agg (Cd.cs c_api_Prefix x1).toArray] w (fun e w'=>e=.returned (.bool r)∧Below w.heap.size w w'):=by
 unfold crawlwaylaw53_AggregateNext at hF
 refine ce (l:=[.agg (Cd.cs c_api_Addr x0).toArray,.agg (Cd.cs c_api_Prefix x1).toArray]) func5 rfl rfl ?_
 refine at_start ?_
 refine sr ?_
 refine at_box (cs:=Cd.cs c_api_Addr x0) rfl rfl rfl ?_
 intro b1
 refine at_box (cs:=Cd.cs c_api_Prefix x1) rfl rfl rfl ?_
 intro b2
 refine aa (ns ?_)
 refine aw (r_load_aggc (c:=c_api_Addr) (z:=x0) isAgg24 sizeOf24 rfl (lens_cell (.s .z) lw)) ?_
 obtain ⟨t3,ht3,hF⟩:=bM hF
 refine cB func25 rfl (fun w hw=>aggregate_Next_ok _ _ ht3 w) ?_
 refine am ?_
 refine aw xe (aw xe ?_)
 refine al (cs:=Cd.cs c_api_Addr zv0) zeroValue24 ?_
 intro b4
 refine at_store (c:=c_api_Addr) (z:=t3.1) .z lw sizeOf24 rfl rfl rfl ?_
 refine aa (ns ?_)
 refine al (cs:=Cd.cs c_api_Addr zv0) zeroValue24 ?_
 intro b5
 refine ns (aa (nt (qs (sr ?_))))
 refine aw (r_load_aggc (c:=c_api_Addr) (z:=x0) isAgg24 sizeOf24 rfl (lens_cell (.s (.s (.s .z))) lw)) ?_
 obtain ⟨t6,ht6,hF⟩:=bM hF
 refine cB func23 rfl (fun w hw=>crawlwayref10_Right_ok _ _ ht6 w) ?_
 refine nwq [19,8,7,6,5,3,2] ?_
 obtain ⟨h7,hF⟩|⟨h7,hF⟩:=oi hF
 ·refine ct h7 ?_
  refine qr ?_
  refine aw (r_load_aggc (c:=c_api_Addr) (z:=x0) isAgg24 sizeOf24 rfl (lens_cell (.s (.s (.s .z))) lw)) ?_
  obtain ⟨t8,ht8,hF⟩:=bM hF
  refine cB func17 rfl (fun w hw=>crawlwayref53_Next_ok _ _ ht8 w) ?_
  refine am ?_
  refine aw xe (aw xe ?_)
  refine at_store (c:=c_api_Addr) (z:=t8.1) .z lw sizeOf24 rfl rfl rfl ?_
  refine aa (qn ?_)
  refine at_drop (H:=_) (.s (.s (.s .z))) ?_
  refine tn (sr ?_)
  refine aw (r_load_aggc (c:=c_api_Prefix) (z:=x1) isAgg37 sizeOf37 rfl (lens_cell (.s (.s .z)) lw)) ?_
  obtain ⟨t9,ht9,hF⟩:=bM hF
  refine cB func26 rfl (fun w hw=>aggregate_Of_ok _ _ ht9 w) ?_
  refine am ?_
  refine aw xe (aw xe ?_)
  refine al (cs:=Cd.cs c_aggregate_Range zv3) zeroValue26 ?_
  intro b10
  refine at_store (c:=c_aggregate_Range) (z:=t9.1) .z lw sizeOf26 rfl rfl rfl ?_
  refine aa (nwq [10,9,8,7,6,5,3] ?_)
  refine qs (sr ?_)
  refine aw (r_load_aggc (c:=c_api_Addr) (z:=t3.1) isAgg24 sizeOf24 rfl (lens_cell (.s (.s .z)) lw)) ?_
  refine aw (r_load_aggc (c:=c_api_Addr) (z:=t8.1) isAgg24 sizeOf24 rfl (lens_cell (.s .z) lw)) ?_
  refine aw (r_eqagg (c:=c_api_Addr) (a:=t3.1) (b:=t8.1) (eq_api_Addr_24) rfl Try.eqGuardType24 rfl rfl (.inr rfl) rfl) ?_
  refine am ?_
  obtain ⟨h11,hF⟩|⟨h11,hF⟩:=oi hF
  ·refine fx 33 h11 ?_
   refine gn ?_
   refine gn ?_
   refine gn ?_
   refine aw xp (am ?_)
   refine gn ?_
   refine gn ?_
   refine gn ?_
   refine gn ?_
   refine aw xp (qn ?_)
   refine at_drop (H:=_) (.s .z) ?_
   refine at_drop (H:=_) (.s .z) ?_
   refine wq [43,10,9,3] ?_
   refine tn ?_
   refine ct rfl ?_
   refine sr (aa (qn (dz (dz (wq [4] ?_)))))
   refine tn (rt ?_)
   have K:=os hF
   subst K
   exact r1 wb
  refine fx 33 h11 ?_
  refine gy ?_
  refine am ?_
  refine gy ?_
  refine am ?_
  refine gy ?_
  refine aw (r_bool underlying4 rfl rfl (.inr rfl) rfl) ?_
  refine aw xp (am ?_)
  obtain ⟨h12,hF⟩|⟨h12,hF⟩:=oi hF
  ·refine fx 38 h12 ?_
   refine gn ?_
   refine gn ?_
   refine gn ?_
   refine gn ?_
   refine aw xp (qn ?_)
   refine at_drop (H:=_) (.s .z) ?_
   refine at_drop (H:=_) (.s .z) ?_
   refine wq [43,10,9,3] ?_
   refine tn ?_
   refine ct rfl ?_
   refine sr (aa (qn (dz (dz (wq [4] ?_)))))
   refine tn (rt ?_)
   have K:=os hF
   subst K
   exact r1 wb
  refine fx 38 h12 ?_
  refine gy ?_
  refine am ?_
  refine gy ?_
  refine aw (r_load_aggc (c:=c_api_Prefix) (z:=x1) isAgg37 sizeOf37 rfl (lens_cell (.s (.s (.s .z))) lw)) ?_
  refine gy ?_
  obtain ⟨t13,ht13,hF⟩:=bM hF
  refine cB func15 rfl (fun w hw=>crawlwayref11_Right_ok _ _ ht13 w) ?_
  refine gy ?_
  refine aw (r_bool underlying4 rfl rfl (.inr rfl) rfl) ?_
  refine aw xp (qn ?_)
  refine at_drop (H:=_) (.s .z) ?_
  refine at_drop (H:=_) (.s .z) ?_
  refine wq [43,10,9,3] ?_
  refine tn ?_
  obtain ⟨h14,hF⟩|⟨h14,hF⟩:=oi hF
  ·refine ct h14 ?_
   refine sr (aa (qn (dz (dz (wq [4] ?_)))))
   refine tn (rt ?_)
   have K:=os hF
   subst K
   exact r1 wb
  refine cf h14 ?_
  refine sn (qs (sr (am ?_)))
  refine aw (r_not rfl) ?_
  refine nwq [45,9,3] ?_
  obtain ⟨h15,hF⟩|⟨h15,hF⟩:=oi hF
  ·refine ct h15 ?_
   refine sr (fa 0 underlying26 rfl sizeOf24 ?_)
   refine aw (r_load_aggc (c:=c_api_Addr) (z:=t9.1.f_From) isAgg24 sizeOf24 rfl (lens_cell .z (Lens.comp lw (fun z=>{ t9.1 with f_From:=z }) (c_aggregate_Range_f_From t9.1)))) ?_
   refine aw (r_build_struct (zs:=Cd.cs c_api_Addr zv0) (cs:=Cd.cs c_api_Addr zv0) underlying24 zeroValue24 rfl (places_api_Addr_24) rfl rfl) ?_
   refine aw (r_eqagg (c:=c_api_Addr) (a:=t9.1.f_From) (b:=zv0) (eq_api_Addr_24) rfl Try.eqGuardType24 rfl rfl (.inl rfl) rfl) ?_
   refine am ?_
   obtain ⟨h16,hF⟩|⟨h16,hF⟩:=oi hF
   ·refine fx 50 h16 ?_
    refine gy ?_
    refine fa 17 underlying26 rfl sizeOf24 ?_
    refine gy ?_
    refine aw (r_load_aggc (c:=c_api_Addr) (z:=t9.1.f_To) isAgg24 sizeOf24 rfl (lens_cell .z (Lens.comp lw (fun z=>{ t9.1 with f_To:=z }) (c_aggregate_Range_f_To t9.1)))) ?_
    refine gy ?_
    refine aw (r_build_struct (zs:=Cd.cs c_api_Addr zv0) (cs:=Cd.cs c_api_Addr zv0) underlying24 zeroValue24 rfl (places_api_Addr_24) rfl rfl) ?_
    refine gy ?_
    refine aw (r_eqagg (c:=c_api_Addr) (a:=t9.1.f_To) (b:=zv0) (eq_api_Addr_24) rfl Try.eqGuardType24 rfl rfl (.inl rfl) rfl) ?_
    refine aw xp (am ?_)
    obtain ⟨h17,hF⟩|⟨h17,hF⟩:=oi hF
    ·refine fx 56 h17 ?_
     refine gy ?_
     obtain ⟨t18,ht18,hF⟩:=bM hF
     refine cB func13 rfl (fun w hw=>crawlwaylaw53_alive_ok  _ ht18 w) ?_
     refine aw xp (aa (qn (dz (dz (wq [4] ?_)))))
     refine tn (rt ?_)
     have K:=os hF
     subst K
     exact r1 wb
    refine fx 56 h17 ?_
    refine gn ?_
    refine aw xp (aa (qn (dz (dz (wq [4] ?_)))))
    refine tn (rt ?_)
    have K:=os hF
    subst K
    exact r1 wb
   refine fx 50 h16 ?_
   refine gn ?_
   refine gn ?_
   refine gn ?_
   refine gn ?_
   refine aw xp (am ?_)
   refine gn ?_
   refine aw xp (aa (qn (dz (dz (wq [4] ?_)))))
   refine tn (rt ?_)
   have K:=os hF
   subst K
   exact r1 wb
  refine cf h15 ?_
  refine sns ?_
  refine aw (r_load_aggc (c:=c_api_Prefix) (z:=x1) isAgg37 sizeOf37 rfl (lens_cell (.s .z) lw)) ?_
  obtain ⟨t19,ht19,hF⟩:=bM hF
  refine cB func14 rfl (fun w hw=>crawlwayref53_Of_ok _ _ ht19 w) ?_
  refine am ?_
  refine aw xe (aw xe ?_)
  refine al (cs:=Cd.cs c_api_Addr zv0) zeroValue24 ?_
  intro b20
  refine al (cs:=Cd.cs c_api_Addr zv0) zeroValue24 ?_
  intro b21
  refine at_store (c:=c_api_Addr) (z:=t19.1) (.s .z) lw sizeOf24 rfl rfl rfl ?_
  refine at_store (c:=c_api_Addr) (z:=t19.2) .z lw sizeOf24 rfl rfl rfl ?_
  refine qn ?_
  refine at_drop (H:=_) (.s (.s (.s .z))) ?_
  refine wq [12,11,9] ?_
  refine tn (sr (fa 0 underlying26 rfl sizeOf24 ?_))
  refine aw (r_load_aggc (c:=c_api_Addr) (z:=t9.1.f_From) isAgg24 sizeOf24 rfl (lens_cell (.s (.s .z)) (Lens.comp lw (fun z=>{ t9.1 with f_From:=z }) (c_aggregate_Range_f_From t9.1)))) ?_
  refine aw (r_load_aggc (c:=c_api_Addr) (z:=t19.1) isAgg24 sizeOf24 rfl (lens_cell (.s .z) lw)) ?_
  refine aw (r_eqagg (c:=c_api_Addr) (a:=t9.1.f_From) (b:=t19.1) (eq_api_Addr_24) rfl Try.eqGuardType24 rfl rfl (.inl rfl) rfl) ?_
  refine am ?_
  obtain ⟨h22,hF⟩|⟨h22,hF⟩:=oi hF
  ·refine fx 68 h22 ?_
   refine gy ?_
   refine fa 17 underlying26 rfl sizeOf24 ?_
   refine gy ?_
   refine aw (r_load_aggc (c:=c_api_Addr) (z:=t9.1.f_To) isAgg24 sizeOf24 rfl (lens_cell (.s (.s .z)) (Lens.comp lw (fun z=>{ t9.1 with f_To:=z }) (c_aggregate_Range_f_To t9.1)))) ?_
   refine gy ?_
   refine aw (r_load_aggc (c:=c_api_Addr) (z:=t19.2) isAgg24 sizeOf24 rfl (lens_cell .z lw)) ?_
   refine gy ?_
   refine aw (r_eqagg (c:=c_api_Addr) (a:=t9.1.f_To) (b:=t19.2) (eq_api_Addr_24) rfl Try.eqGuardType24 rfl rfl (.inl rfl) rfl) ?_
   refine aw xp (am ?_)
   obtain ⟨h23,hF⟩|⟨h23,hF⟩:=oi hF
   ·refine fx 74 h23 ?_
    refine gy ?_
    obtain ⟨t24,ht24,hF⟩:=bM hF
    refine cB func13 rfl (fun w hw=>crawlwaylaw53_alive_ok  _ ht24 w) ?_
    refine aw xp (aa (qn (dz (dz (dz (wq [4] ?_))))))
    refine tn (qt ?_)
    have K:=os hF
    subst K
    exact r1 wb
   refine fx 74 h23 ?_
   refine gn ?_
   refine aw xp (aa (qn (dz (dz (dz (wq [4] ?_))))))
   refine tn (qt ?_)
   have K:=os hF
   subst K
   exact r1 wb
  refine fx 68 h22 ?_
  refine gn ?_
  refine gn ?_
  refine gn ?_
  refine gn ?_
  refine aw xp (am ?_)
  refine gn ?_
  refine aw xp (aa (qn (dz (dz (dz (wq [4] ?_))))))
  refine tn (qt ?_)
  have K:=os hF
  subst K
  exact r1 wb
 refine cf h7 ?_
 refine sns ?_
 refine aw (r_load_aggc (c:=c_api_Prefix) (z:=x1) isAgg37 sizeOf37 rfl (lens_cell (.s (.s .z)) lw)) ?_
 obtain ⟨t25,ht25,hF⟩:=bM hF
 refine cB func26 rfl (fun w hw=>aggregate_Of_ok _ _ ht25 w) ?_
 refine am ?_
 refine aw xe (aw xe ?_)
 refine al (cs:=Cd.cs c_aggregate_Range zv3) zeroValue26 ?_
 intro b26
 refine at_store (c:=c_aggregate_Range) (z:=t25.1) .z lw sizeOf26 rfl rfl rfl ?_
 refine aa (qn ?_)
 refine at_drop (H:=_) (.s (.s (.s (.s .z)))) ?_
 refine wq [10,9,8,7,6,5,3] ?_
 refine tn (qs (sr ?_))
 refine aw (r_load_aggc (c:=c_api_Addr) (z:=t3.1) isAgg24 sizeOf24 rfl (lens_cell (.s (.s .z)) lw)) ?_
 refine aw (r_load_aggc (c:=c_api_Addr) (z:=zv0) isAgg24 sizeOf24 rfl (lens_cell (.s .z) lw)) ?_
 refine aw (r_eqagg (c:=c_api_Addr) (a:=t3.1) (b:=zv0) (eq_api_Addr_24) rfl Try.eqGuardType24 rfl rfl (.inr rfl) rfl) ?_
 refine am ?_
 obtain ⟨h27,hF⟩|⟨h27,hF⟩:=oi hF
 ·refine fx 33 h27 ?_
  refine gn ?_
  refine gn ?_
  refine gn ?_
  refine aw xp (am ?_)
  refine gn ?_
  refine gn ?_
  refine gn ?_
  refine gn ?_
  refine aw xp (qn ?_)
  refine at_drop (H:=_) (.s .z) ?_
  refine at_drop (H:=_) (.s .z) ?_
  refine wq [43,10,9,3] ?_
  refine tn ?_
  refine ct rfl ?_
  refine sr (aa (qn (dz (dz (wq [4] ?_)))))
  refine tn (rt ?_)
  have K:=os hF
  subst K
  exact r1 wb
 refine fx 33 h27 ?_
 refine gy ?_
 refine am ?_
 refine gy ?_
 refine am ?_
 refine gy ?_
 refine aw (r_bool underlying4 rfl rfl (.inr rfl) rfl) ?_
 refine aw xp (am ?_)
 obtain ⟨h28,hF⟩|⟨h28,hF⟩:=oi hF
 ·refine fx 38 h28 ?_
  refine gn ?_
  refine gn ?_
  refine gn ?_
  refine gn ?_
  refine aw xp (qn ?_)
  refine at_drop (H:=_) (.s .z) ?_
  refine at_drop (H:=_) (.s .z) ?_
  refine wq [43,10,9,3] ?_
  refine tn ?_
  refine ct rfl ?_
  refine sr (aa (qn (dz (dz (wq [4] ?_)))))
  refine tn (rt ?_)
  have K:=os hF
  subst K
  exact r1 wb
 refine fx 38 h28 ?_
 refine gy ?_
 refine am ?_
 refine gy ?_
 refine aw (r_load_aggc (c:=c_api_Prefix) (z:=x1) isAgg37 sizeOf37 rfl (lens_cell (.s (.s (.s .z))) lw)) ?_
 refine gy ?_
 obtain ⟨t29,ht29,hF⟩:=bM hF
 refine cB func15 rfl (fun w hw=>crawlwayref11_Right_ok _ _ ht29 w) ?_
 refine gy ?_
 refine aw (r_bool underlying4 rfl rfl (.inr rfl) rfl) ?_
 refine aw xp (qn ?_)
 refine at_drop (H:=_) (.s .z) ?_
 refine at_drop (H:=_) (.s .z) ?_
 refine wq [43,10,9,3] ?_
 refine tn ?_
 obtain ⟨h30,hF⟩|⟨h30,hF⟩:=oi hF
 ·refine ct h30 ?_
  refine sr (aa (qn (dz (dz (wq [4] ?_)))))
  refine tn (rt ?_)
  have K:=os hF
  subst K
  exact r1 wb
 refine cf h30 ?_
 refine sn (qs (sr (am ?_)))
 refine aw (r_not rfl) ?_
 refine nwq [45,9,3] ?_
 obtain ⟨h31,hF⟩|⟨h31,hF⟩:=oi hF
 ·refine ct h31 ?_
  refine sr (fa 0 underlying26 rfl sizeOf24 ?_)
  refine aw (r_load_aggc (c:=c_api_Addr) (z:=t25.1.f_From) isAgg24 sizeOf24 rfl (lens_cell .z (Lens.comp lw (fun z=>{ t25.1 with f_From:=z }) (c_aggregate_Range_f_From t25.1)))) ?_
  refine aw (r_build_struct (zs:=Cd.cs c_api_Addr zv0) (cs:=Cd.cs c_api_Addr zv0) underlying24 zeroValue24 rfl (places_api_Addr_24) rfl rfl) ?_
  refine aw (r_eqagg (c:=c_api_Addr) (a:=t25.1.f_From) (b:=zv0) (eq_api_Addr_24) rfl Try.eqGuardType24 rfl rfl (.inl rfl) rfl) ?_
  refine am ?_
  obtain ⟨h32,hF⟩|⟨h32,hF⟩:=oi hF
  ·refine fx 50 h32 ?_
   refine gy ?_
   refine fa 17 underlying26 rfl sizeOf24 ?_
   refine gy ?_
   refine aw (r_load_aggc (c:=c_api_Addr) (z:=t25.1.f_To) isAgg24 sizeOf24 rfl (lens_cell .z (Lens.comp lw (fun z=>{ t25.1 with f_To:=z }) (c_aggregate_Range_f_To t25.1)))) ?_
   refine gy ?_
   refine aw (r_build_struct (zs:=Cd.cs c_api_Addr zv0) (cs:=Cd.cs c_api_Addr zv0) underlying24 zeroValue24 rfl (places_api_Addr_24) rfl rfl) ?_
   refine gy ?_
   refine aw (r_eqagg (c:=c_api_Addr) (a:=t25.1.f_To) (b:=zv0) (eq_api_Addr_24) rfl Try.eqGuardType24 rfl rfl (.inl rfl) rfl) ?_
   refine aw xp (am ?_)
   obtain ⟨h33,hF⟩|⟨h33,hF⟩:=oi hF
   ·refine fx 56 h33 ?_
    refine gy ?_
    obtain ⟨t34,ht34,hF⟩:=bM hF
    refine cB func13 rfl (fun w hw=>crawlwaylaw53_alive_ok  _ ht34 w) ?_
    refine aw xp (aa (qn (dz (dz (wq [4] ?_)))))
    refine tn (rt ?_)
    have K:=os hF
    subst K
    exact r1 wb
   refine fx 56 h33 ?_
   refine gn ?_
   refine aw xp (aa (qn (dz (dz (wq [4] ?_)))))
   refine tn (rt ?_)
   have K:=os hF
   subst K
   exact r1 wb
  refine fx 50 h32 ?_
  refine gn ?_
  refine gn ?_
  refine gn ?_
  refine gn ?_
  refine aw xp (am ?_)
  refine gn ?_
  refine aw xp (aa (qn (dz (dz (wq [4] ?_)))))
  refine tn (rt ?_)
  have K:=os hF
  subst K
  exact r1 wb
 refine cf h31 ?_
 refine sns ?_
 refine aw (r_load_aggc (c:=c_api_Prefix) (z:=x1) isAgg37 sizeOf37 rfl (lens_cell (.s .z) lw)) ?_
 obtain ⟨t35,ht35,hF⟩:=bM hF
 refine cB func14 rfl (fun w hw=>crawlwayref53_Of_ok _ _ ht35 w) ?_
 refine am ?_
 refine aw xe (aw xe ?_)
 refine al (cs:=Cd.cs c_api_Addr zv0) zeroValue24 ?_
 intro b36
 refine al (cs:=Cd.cs c_api_Addr zv0) zeroValue24 ?_
 intro b37
 refine at_store (c:=c_api_Addr) (z:=t35.1) (.s .z) lw sizeOf24 rfl rfl rfl ?_
 refine at_store (c:=c_api_Addr) (z:=t35.2) .z lw sizeOf24 rfl rfl rfl ?_
 refine qn ?_
 refine at_drop (H:=_) (.s (.s (.s .z))) ?_
 refine wq [12,11,9] ?_
 refine tn (sr (fa 0 underlying26 rfl sizeOf24 ?_))
 refine aw (r_load_aggc (c:=c_api_Addr) (z:=t25.1.f_From) isAgg24 sizeOf24 rfl (lens_cell (.s (.s .z)) (Lens.comp lw (fun z=>{ t25.1 with f_From:=z }) (c_aggregate_Range_f_From t25.1)))) ?_
 refine aw (r_load_aggc (c:=c_api_Addr) (z:=t35.1) isAgg24 sizeOf24 rfl (lens_cell (.s .z) lw)) ?_
 refine aw (r_eqagg (c:=c_api_Addr) (a:=t25.1.f_From) (b:=t35.1) (eq_api_Addr_24) rfl Try.eqGuardType24 rfl rfl (.inl rfl) rfl) ?_
 refine am ?_
 obtain ⟨h38,hF⟩|⟨h38,hF⟩:=oi hF
 ·refine fx 68 h38 ?_
  refine gy ?_
  refine fa 17 underlying26 rfl sizeOf24 ?_
  refine gy ?_
  refine aw (r_load_aggc (c:=c_api_Addr) (z:=t25.1.f_To) isAgg24 sizeOf24 rfl (lens_cell (.s (.s .z)) (Lens.comp lw (fun z=>{ t25.1 with f_To:=z }) (c_aggregate_Range_f_To t25.1)))) ?_
  refine gy ?_
  refine aw (r_load_aggc (c:=c_api_Addr) (z:=t35.2) isAgg24 sizeOf24 rfl (lens_cell .z lw)) ?_
  refine gy ?_
  refine aw (r_eqagg (c:=c_api_Addr) (a:=t25.1.f_To) (b:=t35.2) (eq_api_Addr_24) rfl Try.eqGuardType24 rfl rfl (.inl rfl) rfl) ?_
  refine aw xp (am ?_)
  obtain ⟨h39,hF⟩|⟨h39,hF⟩:=oi hF
  ·refine fx 74 h39 ?_
   refine gy ?_
   obtain ⟨t40,ht40,hF⟩:=bM hF
   refine cB func13 rfl (fun w hw=>crawlwaylaw53_alive_ok  _ ht40 w) ?_
   refine aw xp (aa (qn (dz (dz (dz (wq [4] ?_))))))
   refine tn (qt ?_)
   have K:=os hF
   subst K
   exact r1 wb
  refine fx 74 h39 ?_
  refine gn ?_
  refine aw xp (aa (qn (dz (dz (dz (wq [4] ?_))))))
  refine tn (qt ?_)
  have K:=os hF
  subst K
  exact r1 wb
 refine fx 68 h38 ?_
 refine gn ?_
 refine gn ?_
 refine gn ?_
 refine gn ?_
 refine aw xp (am ?_)
 refine gn ?_
 refine aw xp (aa (qn (dz (dz (dz (wq [4] ?_))))))
 refine tn (qt ?_)
 have K:=os hF
 subst K
 exact r1 wb
end Go.Proofs.Ytahlbjmafceoeaa
namespace Go.Proofs.Ytahlbjmafceoeaa.Agg
open E Go.RowKit Adr Cid
theorem next_wrong{V:Int}{l:List UInt8}(hl:l.length=16)(h:rightL V l=false):aggregate_Next (mkA V l)=some (zA,false):=by
 have hw:addr_Width (mkA V l)=some 0:=by
  rw [width_code hl]
  unfold widthL
  rw [h];rfl
 unfold aggregate_Next
 have e:wr .i64 ((ishr .i64 0 3)-1) = -1:=by decide
 rw [hw,bindM_some,e,aggregate_Next.l0.eq_def,if_neg (by decide),bindM_some]
 rfl
theorem of_cases(x:S_api_Prefix)(hx:ok_api_Prefix x):∃ b,crawlwayref11_Right x=some b∧((b=false∧aggregate_Of x=some (⟨zA,zA⟩,false))∨(b=true∧∃ a,aggregate_Of x=some (⟨x.f_A,a⟩,true)∧crawlwayref53_Of x=some (x.f_A,a))):=by
 obtain ⟨V,l,b,rfl,hl,_⟩:=exists_mkP x hx
 refine ⟨rightP V l b,cright_ref hl,?_⟩
 unfold aggregate_Of crawlwayref53_Of
 rw [cright_code hl,bindM_some]
 cases h:rightP V l b with
 | false=>left;exact ⟨rfl,rfl⟩
 | true =>
  right
  obtain ⟨hf,N,k,a1,a2,a3,a4⟩:=right_prf hl h
  refine ⟨rfl,adr V (N+2 ^ k-1),?_⟩
  rw [if_neg (by decide),a4,last_prf hf a2 a3,reflast_prf hf a2 a3,bindM_some,bindM_some]
  exact ⟨rfl,rfl⟩
theorem AggregateNext_pure(a0:S_api_Addr)(w0:ok_api_Addr a0)(a1:S_api_Prefix)(w1:ok_api_Prefix a1):crawlwaylaw53_AggregateNext a0 a1=some true:=by
 obtain ⟨V,l,rfl,hl,_⟩:=exists_mkA a0 w0
 obtain ⟨b,hb,ho⟩:=of_cases a1 w1
 unfold crawlwaylaw53_AggregateNext
 have hz:({ f_V:=(0:Int),f_B:=(Vector.replicate 16 (0:Int):(Vector Int 16)) }:S_api_Addr)=zA:=rfl
 simp only [hz]
 rw [right_ref hl]
 cases h:rightL V l with
 | true =>
  obtain ⟨hf,N,hN,rfl⟩:=right_is hl h
  obtain ⟨n1,n2⟩:=next_adr hf hN
  unfold adr at n1 n2
  rw [n1,n2,bindM_some,bindM_some,bindM_some,if_pos rfl]
  rcases ho with ⟨rfl,h1⟩ | ⟨rfl,a,h1,h2⟩
  ·rw [h1,bindM_some,decide_eq_true rfl,if_neg (by decide),if_neg (by simp),hb,bindM_some,if_neg (by decide),if_pos (by decide),decide_eq_true rfl,if_pos rfl,if_pos rfl]
   exact alive_then53
  ·rw [h1,bindM_some,decide_eq_true rfl,if_neg (by decide),if_neg (by simp),hb,bindM_some,if_neg (show ¬ (true != true)=true by decide),if_neg (show ¬ (!true)=true by decide),h2,bindM_some,decide_eq_true rfl,if_pos rfl,decide_eq_true rfl,if_pos rfl]
   exact alive_then53
 | false =>
  rw [next_wrong hl h,bindM_some,bindM_some,if_neg Bool.false_ne_true]
  rcases ho with ⟨rfl,h1⟩ | ⟨rfl,a,h1,h2⟩
  ·rw [h1,bindM_some,decide_eq_true rfl,if_neg (by decide),if_neg (by decide),hb,bindM_some,if_neg (by decide),if_pos (by decide),if_pos rfl,if_pos rfl]
   exact alive_then53
  ·rw [h1,bindM_some,decide_eq_true rfl,if_neg (by decide),if_neg (by decide),hb,bindM_some,if_neg (show ¬ (true != true)=true by decide),if_neg (show ¬ (!true)=true by decide),h2,bindM_some,decide_eq_true rfl,if_pos rfl,decide_eq_true rfl,if_pos rfl]
   exact alive_then53
end Go.Proofs.Ytahlbjmafceoeaa.Agg
