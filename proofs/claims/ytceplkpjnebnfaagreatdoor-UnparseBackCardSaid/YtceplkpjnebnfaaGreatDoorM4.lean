/- Texts of this proof, joined. -/
import Derived.Test.YtceplkpjnebnfaaGreatDoorM3
import Derived.Laws.AppendOwn
import Derived.Maps.AppendAt
import Derived.Below
import Derived.Lib.BitFns
import Derived.IntWalk
set_option linter.all false
set_option maxHeartbeats 8000000
set_option maxRecDepth 100000
namespace Go.Proofs.YtceplkpjnebnfaaGreatDoor
section
open Go.RowKit
section
variable {P : Program} {ops : Array Oper} {Q : Exit -> Act -> World -> Prop} {md : Region.Mode}
end
end
end Go.Proofs.YtceplkpjnebnfaaGreatDoor
namespace Go
def World.ownsQ (w:World)(q:Value->Prop)(base:Nat)(e:TypeId)(size:Nat)(v:Value)(n:Nat)(xs:List Value):Prop:=
 xs.length=n*size/\
 ((v= .slice none 0 0/\n=0)\/
  ∃g cap cur,v= .slice (some ⟨g,0,none⟩) n cap/\base<=g/\w.heap[g]? =some (.cells cur e (0,0))/\n<=cap/\cap<=maxLen/\cur.size=cap*size/\cur.toList.take (n*size)=xs/\∀u∈cur.toList,q u)
section
variable {w : World} {q : Value -> Prop} {base : Nat} {e : TypeId} {size : Nat} {v : Value} {n : Nat} {xs : List Value}
theorem World.ownsQ.own (h:w.ownsQ q base e size v n xs):w.ownsRow base e size v n xs:=by
 refine⟨h.1,?_⟩;rcases h.2 with hn |⟨g,cap,cur,hv,hb,hg,h1,h2,h3,h4,_⟩
 ·exact .inl hn
 exact .inr ⟨g,cap,cur,hv,hb,hg,h1,h2,h3,h4⟩
theorem World.ownsQ_nil (w:World)(q:Value->Prop)(base:Nat)(e:TypeId)(size:Nat):w.ownsQ q base e size (.slice none 0 0) 0 []:=⟨by simp,.inl ⟨rfl,rfl⟩⟩
theorem World.ownsQ.kept {w':World}{row:Option Nat}(h:w.ownsQ q base e size v n xs)(hg:w.grownBy w' row)(hne:v.ownBlock=none\/v.ownBlock≠row):w'.ownsQ q base e size v n xs:=by
 refine⟨h.1,?_⟩;rcases h.2 with hn |⟨g,cap,cur,rfl,hb,hgg,rest⟩
 ·exact .inl hn
 refine .inr ⟨g,cap,cur,rfl,hb,?_,rest⟩;rw[hg.block g (Array.getElem?_eq_some_iff.1 hgg).1 (by simpa [Value.ownBlock] using hne)];exact hgg
theorem World.ownsQ.mono {base':Nat}(h:w.ownsQ q base e size v n xs)(hb:base'<=base):w.ownsQ q base' e size v n xs:=by
 refine⟨h.1,?_⟩;rcases h.2 with hn |⟨g,cap,cur,hv,h1,rest⟩
 ·exact .inl hn
 exact .inr ⟨g,cap,cur,hv,by omega,rest⟩
theorem World.ownsRow.mono_ {base':Nat}(h:w.ownsRow base e size v n xs)(hb:base'<=base):w.ownsRow base' e size v n xs:=by
 refine⟨h.1,?_⟩;rcases h.2 with hn |⟨g,cap,cur,hv,h1,rest⟩
 ·exact .inl hn
 exact .inr ⟨g,cap,cur,hv,by omega,rest⟩
theorem World.ownsQ.apart (h:w.ownsQ q base e size v n xs){a:Addr}{u:Value}(hc:w.cell? a=some u)(hu:¬q u)(hr:a.spot=none:=by rfl):v.ownBlock≠some a.block:=by
 rcases h.2 with⟨rfl,_⟩ |⟨g,cap,cur,rfl,hb,hg,h1,h2,h3,h4,hq⟩
 ·simp[Value.ownBlock]
 intro he;simp only[Value.ownBlock] at he;injection he with he
 obtain⟨b,off,r⟩:=a;simp only at he hr;subst he hr;rw[cell_of_row w _ off cur e (0,0) hg] at hc;exact hu (hq u (Array.mem_toList_iff.2 (Array.mem_of_getElem? hc)))
end
section
variable {P : Program} (w : World)
theorem Zx {z:Array Value}{n:Nat}{u:Value}(h:u∈(Builtin.zeroCells z n).toList):u∈z.toList:=by
 unfold Builtin.zeroCells at h;simp only[Array.toList_map,Array.toList_range,List.mem_map,List.mem_range] at h;obtain⟨i,hi,rfl⟩:=h;have hz:0<z.size:=by
  rcases Nat.eq_zero_or_pos z.size with h0 |h0
  ·rw[h0] at hi;simp at hi
  exact h0
 have hlt:i%z.size<z.size:=Nat.mod_lt _ hz;rw[getElem!_pos z _ hlt];simp
theorem Gt (q:Value->Prop)(base:Nat)(t ty e:TypeId)(i:TypeInfo)(z:Value)(size bytes:Nat)(ht:P.underlying t=some (.slice e))(hi:P.info? e=some i)(hz:i.zero=some z)
 (hsize:i.size=size) (hby:i.bytes=bytes) (hzs:z.cells.size=size) (hsz:0<size) (hzq:∀u∈z.cells.toList,q u)
 (v:Value) (n:Nat) (xs:List Value) (hown:w.ownsQ q base e size v n xs)
 (a:Addr) (m c:Nat) (news:List Value) (hl:news.length=m*size) (hnews:∀j u,news[j]? =some u->w.cell? (a.add j)=some u) (h1:∀u∈news,u.oneCell'=true) (hq:∀u∈news,q u)
 (h63:n+m<=maxLen) (hbytes:(n+m)*bytes<=140737488355328) (hbase:base<=w.heap.size):
 ∃v' w',(Builtin.append_ #[t,t] ty #[v,.slice (some a) m c]).run P w= .ok v' w'/\w'.ownsQ q base e size v' (n+m) (xs++news)/\w.grownBy w' v.ownBlock/\
  (v'= .slice none 0 0↔v= .slice none 0 0/\m=0)/\(v'.ownBlock=v.ownBlock\/v'.ownBlock=some w.heap.size):=by
 subst hsize;subst hby
 have hsmall:n+m<=9223372036854775807:=by simp only[maxLen] at h63;omega
 have hlen:(xs++news).length=(n+m)*i.size:=by rw[List.length_append,hown.1,hl,Nat.add_mul]
 have grown:(∀u∈xs,q u)->∀(old:Nat),old<n+m->∀(row:Option Nat),
  (w.drew.alloc (.cells (xs.toArray++news.toArray++Builtin.zeroCells z.cells (grownCap w (n+m) old e-(n+m))) e)).ownsQ q base e i.size
   (.slice (some ⟨w.heap.size,0,none⟩) (n+m) (grownCap w (n+m) old e)) (n+m) (xs++news)/\
  w.grownBy (w.drew.alloc (.cells (xs.toArray++news.toArray++Builtin.zeroCells z.cells (grownCap w (n+m) old e-(n+m))) e)) row:=by
  intro hxq old ho row;have hge:=grownCap_ge w (n+m) old e;have hcm:grownCap w (n+m) old e<=maxLen:=grownCap_le_maxLen w (n+m) old e h63;refine⟨⟨hlen,.inr ⟨w.heap.size,_,_,rfl,hbase,heap_alloc_new w.drew _,hge,hcm,?_,?_,?_⟩⟩,⟨rfl,rfl,rfl,by simp,λk hk _=>RowKit.Below.heap_alloc w.drew _ k hk⟩⟩
  ·simp only[Array.size_append,List.size_toArray,size_zeroCells,hzs,hown.1,hl,<-Nat.add_mul]
   congr 1
   omega
  ·simp only[Array.toList_append,List.append_assoc]
   rw[<-List.append_assoc,<-hlen];exact List.take_left
  intro u hu;simp only[Array.toList_append,List.mem_append] at hu;rcases hu with(hu |hu) |hu
  ·exact hxq u hu
  ·exact hq u hu
  exact hzq u (Zx hu)
 rcases hown.2 with⟨rfl,rfl⟩ |⟨g,cap,cur,rfl,hbg,hg,hnc,hcm,hcs,htake,hcq⟩
 ·have hx:xs=[]:=List.eq_nil_of_length_eq_zero (by simpa using hown.1)
  subst hx;by_cases hm:m=0
  ·subst hm
   have hn:news=[]:=List.eq_nil_of_length_eq_zero (by simpa using hl);subst hn;refine⟨.slice none 0 0,w,?_,World.ownsQ_nil w q base e i.size,⟨rfl,rfl,rfl,Lr,λ_ _ _=>rfl⟩,by simp,Or.inl rfl⟩;simp[Builtin.append_,run_underlying ht,sizeOf,typeInfo,hi,Builtin.lenOf,Builtin.firstCells,loadCells,loadCellsFrom]
  have hr:=run_append_nil (P:=P) w t ty e i z ht hi hz a m c news hl hnews (by omega) (by omega) (by have hb:=hbytes;simp only[Nat.zero_add] at hb;omega);have hgr:=grown (by simp) 0 (by omega) (Value.ownBlock (.slice none 0 0));simp only[Nat.zero_add,List.nil_append,Array.empty_append] at hgr⊢;exact⟨_,_,hr,hgr.1,hgr.2,by simp[hm],Or.inr rfl⟩
 by_cases hroom:n+m<=cap
 ·have hfit:n*i.size+news.length<=cur.size:=by rw[hl,hcs,<-Nat.add_mul];exact Nat.mul_le_mul_right _ hroom
  have hr:=run_append_room (P:=P) w t ty e i ht hi g n cap cur hg a m c news hl hnews h1 hroom hfit;refine⟨_,_,hr,⟨hlen,.inr ⟨g,cap,_,rfl,hbg,setRow_heap w g cur _ e _ hg,hroom,hcm,?_,?_,?_⟩⟩,⟨rfl,rfl,rfl,by simp,λk _ hk=>setRow_other w g k _ (λe=>hk (by simp[Value.ownBlock,e]))⟩,by simp,Or.inl rfl⟩
  ·simp only[List.size_toArray,List.length_append,List.length_take,List.length_drop,Array.length_toList]
   omega
  ·rw[htake,<-hlen]
   exact List.take_left
  intro u hu;simp only[List.mem_append] at hu;rcases hu with(hu |hu) |hu
  ·exact hcq u (List.mem_of_mem_take hu)
  ·exact hq u hu
  exact hcq u (List.mem_of_mem_drop hu)
 have holds:∀j u,xs[j]? =some u->w.cell? ((⟨g,0,none⟩:Addr).add j)=some u:=hown.own.cells (g:=g) rfl;have hr:=run_append_grow (P:=P) w t ty e i z ht hi hz ⟨g,0,none⟩ n cap xs hown.1 holds a m c news hl hnews (by omega) (by omega) (growslice_fits (by omega) hbytes);have hgr:=grown (λu hu=>hcq u (List.mem_of_mem_take (by rw[htake];exact hu))) cap (by omega) (Value.ownBlock (.slice (some ⟨g,0,none⟩) n cap));exact⟨_,_,hr,hgr.1,hgr.2,by simp,Or.inr rfl⟩
theorem Kv {o:Oper}{a:Act}{K:Act->World->Prop}{Q:Exit->Act->World->Prop}(s x:Operand)(t:TypeId)
 (ho:o.op= .call {callee:= .builtin .append,args:= #[s,x],argTypes:= #[t,t]})
 (q:Value->Prop) (base:Nat) (e:TypeId) (i:TypeInfo) (z:Value) (size bytes:Nat) (ht:P.underlying t=some (.slice e)) (hi:P.info? e=some i) (hz:i.zero=some z)
 (hsize:i.size=size) (hby:i.bytes=bytes) (hzs:z.cells.size=size) (hsz:0<size) (hzq:∀u∈z.cells.toList,q u)
 (v:Value) (n:Nat) (xs:List Value) (hs:a.eval s=v) (hown:w.ownsQ q base e size v n xs)
 (ad:Addr) (m c:Nat) (news:List Value) (hx:a.eval x= .slice (some ad) m c) (hl:news.length=m*size) (hnews:∀j u,news[j]? =some u->w.cell? (ad.add j)=some u) (h1:∀u∈news,u.oneCell'=true) (hq:∀u∈news,q u)
 (h63:n+m<=maxLen) (hbytes:(n+m)*bytes<=140737488355328) (hbase:base<=w.heap.size)
 (h:∀v' w',w'.ownsQ q base e size v' (n+m) (xs++news)->w.grownBy w' v.ownBlock->(v'= .slice none 0 0↔v= .slice none 0 0/\m=0)->(v'.ownBlock=v.ownBlock\/v'.ownBlock=some w.heap.size)->K (a.put o.dst v') w'):o.wp P a w K Q:=by
 obtain⟨v',w',hr,h2,h3,h4,h5⟩:=Gt (P:=P) w q base t o.type e i z size bytes ht hi hz hsize hby hzs hsz hzq v n xs hown ad m c news hl hnews h1 hq h63 hbytes hbase;unfold Oper.wp execOp;simp only[ho,resolve,invoke,builtin,Sem.run_bind,Sem.run_pure,Result.andThen_ok,List.map_toArray,List.map_cons,List.map_nil,hs,hx,hr];exact h v' w' h2 h3 h4 h5
theorem Uo {ops:Array Oper}{rest:List Oper}{o:Oper}{a:Act}{Q:Exit->Act->World->Prop}(hgd:o.guard=none)(s x:Operand)(t:TypeId)
 (ho:o.op= .call {callee:= .builtin .append,args:= #[s,x],argTypes:= #[t,t]})
 (q:Value->Prop) (base:Nat) (e:TypeId) (i:TypeInfo) (z:Value) (size bytes:Nat) (ht:P.underlying t=some (.slice e)) (hi:P.info? e=some i) (hz:i.zero=some z)
 (hsize:i.size=size) (hby:i.bytes=bytes) (hzs:z.cells.size=size) (hsz:0<size) (hzq:∀u∈z.cells.toList,q u)
 (v:Value) (n:Nat) (xs:List Value) (hs:a.eval s=v) (hown:w.ownsQ q base e size v n xs)
 (ad:Addr) (m c:Nat) (news:List Value) (hx:a.eval x= .slice (some ad) m c) (hl:news.length=m*size) (hnews:∀j u,news[j]? =some u->w.cell? (ad.add j)=some u) (h1:∀u∈news,u.oneCell'=true) (hq:∀u∈news,q u)
 (h63:n+m<=maxLen) (hbytes:(n+m)*bytes<=140737488355328) (hbase:base<=w.heap.size)
 (h:∀v' w',w'.ownsQ q base e size v' (n+m) (xs++news)->w.grownBy w' v.ownBlock->(v'= .slice none 0 0↔v= .slice none 0 0/\m=0)->(v'.ownBlock=v.ownBlock\/v'.ownBlock=some w.heap.size)->wpList P ops Q rest (a.put o.dst v') w'):wpList P ops Q (o::rest) a w:=
 wpList_plain hgd λ_ hK=>Kv w s x t ho q base e i z size bytes ht hi hz hsize hby hzs hsz hzq v n xs hs hown ad m c news hx hl hnews h1 hq h63 hbytes hbase λv' w' h2 h3 h4 h5=>hK _ _ (h v' w' h2 h3 h4 h5)
end
end Go
namespace Go.Proofs.YtceplkpjnebnfaaGreatDoor
open Go.RowKit
theorem Tda {s:List UInt8}{k:Nat}(hl:k<=Dg.lead s)(h:k<s.length)(hd:Dg.dB s[k]=true):k+1<=Dg.lead s:=by
 rcases Nat.lt_or_ge k (Dg.lead s) with h1 |h1
 ·omega
 have e:Dg.lead s=k:=by omega
 have:=Dg.lead_not (s:=s) (by omega);simp only[e] at this;rw[hd] at this;cases this
theorem Uda {s:List UInt8}{k:Nat}(hl:k<=Dg.lead s)(h:k<s.length)(hd:Dg.dB s[k]=false):Dg.lead s=k:=by
 rcases Nat.lt_or_ge k (Dg.lead s) with h1 |h1
 ·obtain⟨h2,h3⟩:=Dg.lead_dig h1
  rw[hd] at h3;cases h3
 omega
theorem Kna {b:UInt8}{y:Nat}(h:y=b.toNat):Dg.dB b=decide (48<=y/\y<=57):=by unfold Dg.dB;rw[h]
theorem Zq (s:List UInt8)(w:World)(hs:s.length<=1000000):
 Calls Tryz.prog 165 #[.string ⟨s.toArray⟩] w λe w'=>e= .returned (.int .i64 (Dg.lead s:Int))/\w=w':=by
 have hsz:(⟨s.toArray⟩:ByteArray).size=s.length:=rfl;have HSZ:=Qd hsz;go_enter Tryz.func165,Tryz.ntmps165
 go_wp2
 go_loop [3] (λi=>∃k:Nat,k<=s.length/\i= .int .i64 (k:Int)/\Hid (k<=Dg.lead s)) (λi=>s.length-(intOf i).toNat)
 case atStart=>exact⟨0,Nat.zero_le _,rfl,Qd (Nat.zero_le _)⟩
 case round=>
  obtain⟨k,hk,rfl,H⟩:=hrel;by_cases hlt:k<s.length
  ·obtain⟨y,hy⟩:∃y,y=s[k].toNat:=⟨_,rfl⟩
   have hgy:((⟨s.toArray⟩:ByteArray)[k]'(show k<(⟨s.toArray⟩:ByteArray).size from hlt)).toNat=y:=hy.symm;have HD:=Qd (Kna hy);have H1:=Qd (λh=>Tda H.out hlt h);have H2:=Qd (λh=>Uda H.out hlt h);clear hy;by_cases h1:48<=y
   ·by_cases h2:y<=57
    ·go_wp2
     go_round
     case rel=>exact⟨k+1,by omega,by go_num,Qd (H1.out (by rw[HD.out];exact decide_eq_true ⟨h1,h2⟩))⟩
     case measure=>simp[intOf];omega
    go_wp2
    go_ret;exact⟨Ra (by rw[H2.out (by rw[HD.out];exact decide_eq_false (by omega))]),rfl⟩
   go_wp2
   go_ret;exact⟨Ra (by rw[H2.out (by rw[HD.out];exact decide_eq_false (by omega))]),rfl⟩
  have e:k=s.length:=by omega
  have HE:=Qd (show Dg.lead s=k by have:=Dg.lead_le s;have:=H.out;omega);clear e;go_wp2
  go_ret;exact⟨Ra (by rw[HE.out]),rfl⟩
theorem Vh (v:Value)(l:List Nat)(w:World)(h:IsRes w v l):
 Calls Tryz.prog 125 #[v] w λe w'=>e= .returned (.bool (l==[1]))/\w=w':=by
 obtain⟨A,c,rfl,h1,h2,h3,h4⟩:=h;by_cases hl:l.length=1
 ·obtain⟨x,rfl⟩:∃x,l=[x]:=by
   match l,hl with
   | [x],_=>exact⟨x,rfl⟩
  obtain⟨b,off,rfl,hb,g0⟩:=h4.at_ (k:=0) (by simp[U]);have g1:w.cell? ⟨b,off,none⟩=some (.int .u32 (x:Int)):=by simpa [U] using g0
  have HQ:Hid (([x]==[1])=(x==1)):=Qd (by simp[List.cons_beq_cons]);have hlen:([x]:List Nat).length=1:=rfl;clear g0 h4 h3 hl hlen;by_cases hx:x=1
  ·subst hx
   go_enter Tryz.func125,Tryz.ntmps125
   go_wp2_with fail
   go_ret;exact⟨Aa (by rw[HQ.out];rfl),rfl⟩
  have q:((x:Int)==1)=false:=beq_eq_false_iff_ne.2 (by omega);have HQ2:Hid ((x==1)=false):=Qd (beq_eq_false_iff_ne.2 hx);clear hx;go_enter Tryz.func125,Tryz.ntmps125
  go_wp2_with fail
  go_ret;exact⟨Aa (by rw[HQ.out,HQ2.out]),rfl⟩
 have q:((l.length:Int)==1)=false:=beq_eq_false_iff_ne.2 (by omega);have HQ:Hid ((l==[1])=false):=Qd (by
  rw[beq_eq_false_iff_ne];rintro rfl;exact hl rfl)
 clear hl h4;generalize l.length=n at*;go_enter Tryz.func125,Tryz.ntmps125
 go_wp2_with fail
 go_ret;exact⟨Aa (by rw[HQ.out]),rfl⟩
def Um (w:World)(n:Bool)(l:List Nat)(e:Ending)(w':World):Prop:=∃v,e= .returned (.agg #[.bool n,v])/\IsRes w' v l/\Below w.heap.size w w'
theorem Jh:(Tryz.prog.info? 93).map (·.size)=some 2:=by kernel_rfl
theorem Paa (n:Bool)(v:Value)(l:List Nat)(w:World)(h:IsRes w v l):
 Calls Tryz.prog 163 #[.bool n,v] w (Um w (n&& !(l==[])) l):=by
 have HR:=Qd h;obtain⟨A,c,rfl,h1,h2,h3,h4⟩:=h;have HI2:Hid (∀(b:Bool) (A:Option Addr) (k c:Nat),(Tryz.prog.info? 93).map (·.size)=some (#[.bool b,.slice A k c]:Array Value).size):=Qd (λ_ _ _ _=>Jh);have HG1:Hid (∀o,(w.alloc o).heap[w.heap.size]? =some o):=Qd (λo=>heap_alloc_new w o);have hb:∀o,Below w.heap.size w (w.alloc o):=λo=>Br.alloc Lr _;have HB:=Qd hb;clear h3 h4 hb;by_cases hl:l.length=0
 ·have q:((l.length:Int)==0)=true:=beq_iff_eq.2 (by omega)
  have HL:Hid (l=[]):=Qd (List.eq_nil_of_length_eq_zero hl);clear hl;go_enter Tryz.func163,Tryz.ntmps163
  go_wp2_with (with_reducible refine wpList_store_row rfl 93 (.tmp 4) (.tmp 8) rfl w.heap.size #[.bool false,.slice none 0 0] rfl rfl 93 #[.bool false,.slice none 0 0] (HG1.out _) (HI2.out _ _ _ _) rfl (Ae _ _ _ _) ?_)
  refine bodyPost_ret (results_cell_row (by rfl) _ _ w.heap.size 93 #[.bool false,.slice none 0 0] (0,0) _ (by rfl) (Eb (HG1.out _)) Tryz.underlying93 rfl (HI2.out _ _ _ _)) rfl ⟨.slice none 0 0,by rw[HL.out];simp,by rw[HL.out];exact IsRes.none_ _,rBelow.setRow (HB.out _) Lr _⟩
 have q:((l.length:Int)==0)=false:=beq_eq_false_iff_ne.2 (by omega);have HL:Hid ((l==[])=false):=Qd (by rw[beq_eq_false_iff_ne];rintro rfl;exact hl rfl);clear hl;go_enter Tryz.func163,Tryz.ntmps163
 go_wp2_with (with_reducible refine wpList_store_row rfl 93 (.tmp 4) (.tmp 11) rfl w.heap.size #[.bool n,.slice A l.length c] rfl rfl 93 #[.bool false,.slice none 0 0] (HG1.out _) (HI2.out _ _ _ _) rfl (Ae _ _ _ _) ?_)
 refine bodyPost_ret (results_cell_row (by rfl) _ _ w.heap.size 93 #[.bool n,.slice A l.length c] (0,0) _ (by rfl) (Eb (HG1.out _)) Tryz.underlying93 rfl (HI2.out _ _ _ _)) rfl ⟨.slice A l.length c,by rw[HL.out];simp,(HR.out.below (HB.out _)).setRow (HG1.out _) (Lc _ _ _ _) _,rBelow.setRow (HB.out _) Lr _⟩
theorem Zha (n:Bool)(x:Nat):(n&& !(Nt.digs x==[]))=Rt.nrm n x:=by
 unfold Rt.nrm
 congr 2
 rw[Bool.eq_iff_iff];simp only[beq_iff_eq];exact Nt.digs_nil_iff
theorem Vo {w:World}{v:Value}{l:List Nat}(h1:IsRes w v l)(o1:Nt.Ok l)(s1:l.length<=1000000):
 Calls Tryz.prog 120 #[v] w λe w'=>∃v,e= .returned v/\IsRes w' v (Nt.digs (Nt.val l))/\Below w.heap.size w w':=by
 obtain⟨A,c,rfl,a1,a2,a3,a4⟩:=h1;have hd:=Nt.digs_len_le o1;refine(Oh A c w.heap.size l w a4 Lr o1 a1 a2 (by omega)).mono ?_;rintro e w' ⟨rfl,r,hb'⟩;exact⟨_,rfl,⟨_,_,rfl,Lr,by omega,(λh=>by cases h),r.lies⟩,hb'⟩
def Nd (g:Nat)(n:Bool)(V:Value)(xs:Nat->Value):Act:={tmps:= #[.agg #[.bool n,V],.pointer (some ⟨g,0,none⟩),.pointer (some ⟨g+1,0,none⟩),xs 0,xs 1,xs 2,xs 3,xs 4,xs 5],defers:=[]}
def Lna (g:Nat)(n:Bool)(V:Value)(l:List Nat):Nat->World->Value->Prop
 | 0,w,v=>v= .pointer (some ⟨g,0,none⟩)
 | 1,w,v=>v= .bool n
 | 2,w,v=>v= .pointer (some ⟨g,1,none⟩)
 | 3,w,v=>v=V
 | 4,w,v=>IsRes w v (Nt.digs (Nt.val l))
 |_,w,v=>∃u,v= .agg #[.bool (Rt.nrm n (Nt.val l)),u]/\IsRes w u (Nt.digs (Nt.val l))
theorem Ay (n:Bool)(v:Value)(l:List Nat)(w:World)(h:IsRes w v l)(ho:Nt.Ok l)(hs:l.length<=1000000):
 Calls Tryz.prog 126 #[.agg #[.bool n,v]] w (Um w (Rt.nrm n (Nt.val l)) (Nt.digs (Nt.val l))):=by
 obtain⟨g,hg⟩:∃g,g=w.heap.size:=⟨_,rfl⟩;obtain⟨W,hW⟩:∃W,W=(w.alloc (.cells #[.bool n,v] 93)).alloc (.cells #[.bool false,.slice none 0 0] 93):=⟨_,rfl⟩;have hWs:W.heap.size=g+1+1:=by rw[hW,hg];simp
 have hWb:Below g w W:=by rw[hW,hg];exact(Br.alloc Lr _).alloc (by simp) _
 have hW0:W.heap[g]? =some (.cells #[.bool n,v] 93 (0,0)):=by rw[hW,hg];exact heap_alloc2_old _ _ _
 have HW1:Hid (W.heap[g+1]? =some (.cells #[.bool false,.slice none 0 0] 93 (0,0))):=Qd (by rw[hW,hg];exact heap_alloc2_new _ _ _);have HQ:Hid (∀wx,Below W.heap.size W wx->wx.cell? ⟨g,0,none⟩=some (.bool n)/\wx.cell? ⟨g,1,none⟩=some v):=Qd (λwx hx=>by
  have hb:=(hx.block g (by omega)).trans hW0;exact⟨(cell_of_row wx g 0 _ _ _ hb).trans rfl,(cell_of_row wx g 1 _ _ _ hb).trans rfl⟩)
 have hrb:∀wx,Below W.heap.size W wx->IsRes wx v l:=λwx hx=>(h.below (by rw[<-hg];exact hWb)).below hx;have NN:=Qd (λ(wx:World) (hx:Below W.heap.size W wx)=>Vo (hrb wx hx) ho hs);have SG:Hid (∀(wx:World) (u:Value),IsRes wx u (Nt.digs (Nt.val l))->Calls Tryz.prog 163 #[.bool n,u] wx (Um wx (Rt.nrm n (Nt.val l)) (Nt.digs (Nt.val l)))):=Qd (λwx u hu=>by
  have:=Paa n u _ wx hu;rwa[Zha] at this)
 have HI2:Hid (∀(b:Bool) (A:Option Addr) (k c:Nat),(Tryz.prog.info? 93).map (·.size)=some (#[.bool b,.slice A k c]:Array Value).size):=Qd (λ_ _ _ _=>Jh);have HW:=Qd hW;have HG:=Qd hg;have hgl:g+1<W.heap.size:=by omega
 obtain⟨A,c,rfl,-⟩:=h;clear hW hW0 hrb hWs;go_enter Tryz.func126,Tryz.ntmps126
 go_wp2_with fail
 rw[<-HW.out,<-hg];clear hg;refine Ri (Nd g n (.slice A l.length c)) W (Lna g n (.slice A l.length c) l) 6 (by kernel_rfl) (by rfl) ?_ (by kernel_rfl) (by kernel_rfl) (λ_=>undef) rfl Br ?_ ?_
 ·intro i w1 w2 v hv hb
  match i with
  | 0=>exact hv
  | 1=>exact hv
  | 2=>exact hv
  | 3=>exact hv
  | 4=>exact hv.below hb
  |i+5=>exact(by obtain⟨u,e,r⟩:=hv;exact⟨u,e,r.below hb⟩)
 ·intro i xs w1 hi hb hdep
  have hi6:i<6:=hi;clear hi;rcases(show i=0\/i=1\/i=2\/i=3\/i=4\/i=5 by omega) with rfl |rfl |rfl |rfl |rfl |rfl
  ·refine Ca rfl rfl ?_
   unfold Nd Oper.wp;go_simp
   exact⟨_,by simp only[Nd,Ja];simp[Act.put],rfl,Br⟩
  ·have h0:xs 0= .pointer (some ⟨g,0,none⟩):=hdep 0 (by kernel_rfl)
   refine Ca rfl rfl ?_;have q:=(HQ.out w1 hb).1;unfold Nd Oper.wp;simp only[h0];go_simp
   exact⟨_,by simp only[Nd,Ja];simp[Act.put,h0],rfl,Br⟩
  ·refine Ca rfl rfl ?_
   unfold Nd Oper.wp;go_simp
   exact⟨_,by simp only[Nd,Ja];simp[Act.put],rfl,Br⟩
  ·have h2:xs 2= .pointer (some ⟨g,1,none⟩):=hdep 2 (by kernel_rfl)
   refine Ca rfl rfl ?_;have q:=(HQ.out w1 hb).2;unfold Nd Oper.wp;simp only[h2];go_simp
   exact⟨_,by simp only[Nd,Ja];simp[Act.put,h2],rfl,Br⟩
  ·have h3:xs 3=(.slice A l.length c):=hdep 3 (by kernel_rfl)
   refine Ca rfl rfl ?_;unfold Nd Oper.wp;simp only[h3];go_simp
   refine(NN.out w1 hb).mono ?_;rintro e w2 ⟨v',rfl,hr,hb2⟩;exact⟨_,by simp only[Nd,Ja];simp[Act.put,h3],hr,hb2⟩
  have h1:xs 1= .bool n:=hdep 1 (by kernel_rfl);have r4:IsRes w1 (xs 4) (Nt.digs (Nt.val l)):=hdep 4 (by kernel_rfl);refine Ca rfl rfl ?_;unfold Nd Oper.wp;simp only[h1];go_simp
  refine(SG.out w1 _ r4).mono ?_;rintro e w2 ⟨u,rfl,hr,hb2⟩;exact⟨_,by simp only[Nd,Ja];simp[Act.put,h1],⟨u,rfl,hr⟩,hb2⟩
 intro xs w1 hb hx;obtain⟨u,h5,r5⟩:∃u,xs 5= .agg #[.bool (Rt.nrm n (Nt.val l)),u]/\IsRes w1 u (Nt.digs (Nt.val l)):=hx 5 (by decide);clear hx;have HR:=Qd r5;obtain⟨A5,c5,rfl,-⟩:=r5;have HG1:=Qd ((hb.block (g+1) (by omega)).trans HW1.out);refine Ca rfl rfl ?_;refine wp_store_row 93 (.tmp 2) (.tmp 8) rfl (g+1) #[.bool (Rt.nrm n (Nt.val l)),.slice A5 (Nt.digs (Nt.val l)).length c5] rfl (by unfold Nd;simp only[h5];rfl) 93 #[.bool false,.slice none 0 0] HG1.out (HI2.out _ _ _ _) rfl (Ae _ _ _ _) ?_;have hbf:=rBelow.setRow (hWb.trans (hb.mono (by omega))) (show g<=g+1 by omega) #[.bool (Rt.nrm n (Nt.val l)),.slice A5 (Nt.digs (Nt.val l)).length c5];unfold Nd;go_wp2_with fail
 refine bodyPost_ret (results_cell_row (by rfl) _ _ (g+1) 93 #[.bool (Rt.nrm n (Nt.val l)),.slice A5 (Nt.digs (Nt.val l)).length c5] (0,0) _ (by rfl) (Eb HG1.out) Tryz.underlying93 rfl (HI2.out _ _ _ _)) rfl ⟨_,rfl,HR.out.setRow HG1.out (Lc _ _ _ _) _,?_⟩;rw[<-HG.out];exact hbf
end Go.Proofs.YtceplkpjnebnfaaGreatDoor
namespace Nt
structure Est (R D p v1 v2 u0 u1 u2:Nat):Prop where
 d:∃r,r<p/\D=(v1*4294967296+v2)*p+r
 r:∃s,s<p/\R=((u0*4294967296+u1)*4294967296+u2)*p+s
 v1lo:2147483648<=v1
 v1hi:v1<4294967296
 v2hi:v2<4294967296
 u1hi:u1<4294967296
 u2hi:u2<4294967296
 lt:R<4294967296*D
theorem Est.ppos {R D p v1 v2 u0 u1 u2:Nat}(h:Est R D p v1 v2 u0 u1 u2):0<p:=by
 obtain⟨r,hr,_⟩:=h.d;omega
theorem Est.dpos {R D p v1 v2 u0 u1 u2:Nat}(h:Est R D p v1 v2 u0 u1 u2):0<D:=by
 have:=h.lt;omega
theorem Qj {a b p:Nat}(h:a*p<b*p):a<b:=Nat.lt_of_mul_lt_mul_right h
theorem Est.u0 {R D p v1 v2 u0 u1 u2:Nat}(h:Est R D p v1 v2 u0 u1 u2):u0*4294967296+u1<=v1*4294967296+4294967295:=by
 obtain⟨r,hr,hD⟩:=h.d;obtain⟨s,hs,hR⟩:=h.r;have h1:=h.lt;have h2:((u0*4294967296+u1)*4294967296+u2)*p<(4294967296*(v1*4294967296+v2)+4294967296)*p:=by
  have:(4294967296*(v1*4294967296+v2)+4294967296)*p=4294967296*((v1*4294967296+v2)*p)+4294967296*p:=by grind
  omega
 have h3:=Qj h2;have:=h.v2hi;omega
theorem Est.q {R D p v1 v2 u0 u1 u2:Nat}(h:Est R D p v1 v2 u0 u1 u2):R/D<4294967296:=by
 rw[Nat.div_lt_iff_lt_mul h.dpos];exact h.lt
theorem Est.first {R D p v1 v2 u0 u1 u2:Nat}(h:Est R D p v1 v2 u0 u1 u2):R/D<=(u0*4294967296+u1)/v1:=by
 obtain⟨r,hr,hD⟩:=h.d;obtain⟨s,hs,hR⟩:=h.r;have hv:=h.v1lo;rw[Nat.le_div_iff_mul_le (by omega)];have h1:R/D*D<=R:=Nat.div_mul_le_self _ _;generalize R/D=q at*;have hu2:=h.u2hi;have h2:q*v1*(4294967296*p)<(u0*4294967296+u1+1)*(4294967296*p):=by
  have e1:q*v1*(4294967296*p)<=q*D:=by
   have:q*D=q*v1*(4294967296*p)+q*(v2*p+r):=by rw[hD];grind
   omega
  have e2:(u0*4294967296+u1+1)*(4294967296*p)=(u0*4294967296+u1)*4294967296*p+4294967296*p:=by grind
  have e3:((u0*4294967296+u1)*4294967296+u2)*p=(u0*4294967296+u1)*4294967296*p+u2*p:=by grind
  have e4:u2*p+p<=4294967296*p:=by
   have:(u2+1)*p<=4294967296*p:=Nat.mul_le_mul_right _ hu2;rw[Nat.succ_mul] at this;exact this
  omega
 have:=Qj h2;omega
theorem Est.less {R D p v1 v2 u0 u1 u2 g t:Nat}(h:Est R D p v1 v2 u0 u1 u2)(hg:g*v1+t=u0*4294967296+u1)(hge:R/D<=g)(htest:4294967296<=g\/t*4294967296+u2<g*v2):R/D+1<=g:=by
 rcases htest with h1 |h1
 ·have:=h.q;omega
 rcases Nat.lt_or_ge (R/D) g with h2 |h2
 ·exact h2
 exfalso
 have e:R/D=g:=by omega
 obtain⟨r,hr,hD⟩:=h.d;obtain⟨s,hs,hR⟩:=h.r;have h3:g*D<=R:=by rw[<-e];exact Nat.div_mul_le_self _ _
 have h4:g*(v1*4294967296+v2)*p<((u0*4294967296+u1)*4294967296+u2+1)*p:=by
  have e1:g*D=g*(v1*4294967296+v2)*p+g*r:=by rw[hD];grind
  have e2:((u0*4294967296+u1)*4294967296+u2+1)*p=((u0*4294967296+u1)*4294967296+u2)*p+p:=Nat.succ_mul _ _;omega
 have h5:=Qj h4;have e3:g*(v1*4294967296+v2)=(g*v1)*4294967296+g*v2:=by grind
 omega
theorem Est.near {R D p v1 v2 u0 u1 u2 g t:Nat}(h:Est R D p v1 v2 u0 u1 u2)(hg:g*v1+t=u0*4294967296+u1)(hlt:g<4294967296)(htest:g*v2<=t*4294967296+u2):g<=R/D+1:=by
 obtain⟨r,hr,hD⟩:=h.d;obtain⟨s,hs,hR⟩:=h.r;have hv:=h.v1lo;have h1:g*(v1*4294967296+v2)*p<=R:=by
  have e3:g*(v1*4294967296+v2)=(g*v1)*4294967296+g*v2:=by grind
  have h2:g*(v1*4294967296+v2)<=(u0*4294967296+u1)*4294967296+u2:=by omega
  have:=Nat.mul_le_mul_right p h2;omega
 have h2:g*r<=4294967295*p:=Nat.mul_le_mul (by omega) (by omega);have h3:4294967295*p<D:=by
  have:4294967296*p<=(v1*4294967296+v2)*p:=Nat.mul_le_mul_right _ (by omega);have hp:=h.ppos;omega
 have e1:g*D=g*(v1*4294967296+v2)*p+g*r:=by rw[hD];grind
 have h4:g*D<R+D:=by omega
 rcases Nat.eq_zero_or_pos g with h0 |h0
 ·rw[h0];exact Nat.zero_le _
 have h5:(g-1)*D<=R:=by
  have:g*D=(g-1)*D+D:=by
   obtain⟨m,rfl⟩:∃m,g=m+1:=⟨g-1,by omega⟩;rw[Nat.add_sub_cancel,Nat.succ_mul]
  omega
 have:=(Nat.le_div_iff_mul_le h.dpos).2 h5;omega
def TakeAt (a d:List Nat)(g:Nat)(cur:List Nat)(k cy b:Nat):Prop:=
 cur.length=a.length/\Ok cur/\val (cur.take k)+g*val (d.take k)=val (a.take k)+(cy+b)*4294967296^k/\cur.drop k=a.drop k
theorem take_start {a d:List Nat}{g:Nat}(h:Ok a):TakeAt a d g a 0 0 0:=⟨rfl,h,by simp[val],rfl⟩
theorem take_get {a d cur:List Nat}{g k cy b:Nat}(h:TakeAt a d g cur k cy b)(hk:k<a.length):cur[k]? =some a[k]:=by
 have:(cur.drop k)[0]? =(a.drop k)[0]? :=by rw[h.2.2.2]
 rw[List.getElem?_drop,List.getElem?_drop,Nat.add_zero,List.getElem?_eq_getElem hk] at this;exact this
theorem take_step {a d cur:List Nat}{g k cy b s cy' b' t:Nat}(h:TakeAt a d g cur k cy b)(hk:k<a.length)(hd:k<d.length)(hs:s<4294967296)(e1:g*d[k]+cy=t+4294967296*cy')(e2:a[k]+4294967296*b'=s+t+b):TakeAt a d g (cur.set k s) (k+1) cy' b':=by
 obtain⟨h1,h2,h3,h4⟩:=h;refine⟨by simpa using h1,Hh h2 hs,?_,?_⟩
 ·rw[Nh (by omega),val_take_succ hk,val_take_succ hd,Nat.pow_succ]
  generalize 4294967296^k=p at*;generalize a[k]=x at*;generalize d[k]=y at*;generalize val (cur.take k)=V at*;generalize val (d.take k)=D at*
  grind
 rw[drop_set];have:=congrArg (List.drop 1) h4;rw[List.drop_drop,List.drop_drop] at this;exact this
theorem take_end {a d cur:List Nat}{g cy b s b':Nat}(h:TakeAt a d g cur d.length cy b)(hl:a.length=d.length+1)(hs:s<4294967296)(e2:a[d.length]+4294967296*b'=s+cy+b):
 (cur.set d.length s).length=a.length/\Ok (cur.set d.length s)/\val (cur.set d.length s)+g*val d=val a+b'*4294967296^(d.length+1):=by
 obtain⟨h1,h2,h3,h4⟩:=h;refine⟨by simpa using h1,Hh h2 hs,?_⟩;have hc:d.length<cur.length:=by omega
 have e:(cur.set d.length s).take (d.length+1)=cur.set d.length s:=List.take_of_length_le (by rw[List.length_set];omega);have f:a.take (d.length+1)=a:=List.take_of_length_le (by omega);have k1:=Nh (x:=s) hc;rw[e] at k1;have k2:=val_take_succ (l:=a) (i:=d.length) (by omega);rw[f] at k2;rw[List.take_length] at h3;rw[k1,k2,Nat.pow_succ];generalize 4294967296^d.length=p at*;generalize a[d.length]=x at*;generalize val (cur.take d.length)=V at*
 grind
end Nt
namespace Nt
def PutAt (a d cur:List Nat)(k c:Nat):Prop:=
 cur.length=a.length/\Ok cur/\val (cur.take k)+c*4294967296^k=val (a.take k)+val (d.take k)/\cur.drop k=a.drop k
theorem put_start {a d:List Nat}(h:Ok a):PutAt a d a 0 0:=⟨rfl,h,by simp[val],rfl⟩
theorem put_get {a d cur:List Nat}{k c:Nat}(h:PutAt a d cur k c)(hk:k<a.length):cur[k]? =some a[k]:=by
 have:(cur.drop k)[0]? =(a.drop k)[0]? :=by rw[h.2.2.2]
 rw[List.getElem?_drop,List.getElem?_drop,Nat.add_zero,List.getElem?_eq_getElem hk] at this;exact this
theorem put_step {a d cur:List Nat}{k c s c':Nat}(h:PutAt a d cur k c)(hk:k<a.length)(hd:k<d.length)(hs:s<4294967296)(e:a[k]+d[k]+c=s+4294967296*c'):PutAt a d (cur.set k s) (k+1) c':=by
 obtain⟨h1,h2,h3,h4⟩:=h;refine⟨by simpa using h1,Hh h2 hs,?_,?_⟩
 ·rw[Nh (by omega),val_take_succ hk,val_take_succ hd,Nat.pow_succ]
  generalize 4294967296^k=p at*;generalize a[k]=x at*;generalize d[k]=y at*;generalize val (cur.take k)=V at*;generalize val (d.take k)=D at*
  grind
 rw[drop_set];have:=congrArg (List.drop 1) h4;rw[List.drop_drop,List.drop_drop] at this;exact this
theorem put_end {a d cur:List Nat}{c s c':Nat}(h:PutAt a d cur d.length c)(hl:a.length=d.length+1)(hs:s<4294967296)(e:a[d.length]+c=s+4294967296*c'):
 (cur.set d.length s).length=a.length/\Ok (cur.set d.length s)/\val (cur.set d.length s)+c'*4294967296^(d.length+1)=val a+val d:=by
 obtain⟨h1,h2,h3,h4⟩:=h;refine⟨by simpa using h1,Hh h2 hs,?_⟩;have hc:d.length<cur.length:=by omega
 have e1:(cur.set d.length s).take (d.length+1)=cur.set d.length s:=List.take_of_length_le (by rw[List.length_set];omega);have f:a.take (d.length+1)=a:=List.take_of_length_le (by omega);have k1:=Nh (x:=s) hc;rw[e1] at k1;have k2:=val_take_succ (l:=a) (i:=d.length) (by omega);rw[f] at k2;rw[List.take_length] at h3;rw[k1,k2,Nat.pow_succ];generalize 4294967296^d.length=p at*;generalize a[d.length]=x at*;generalize val (cur.take d.length)=V at*
 grind
def UpAt (l:List Nat)(s:Nat)(cur:List Nat)(k c:Nat):Prop:=
 cur.length=l.length+1/\Ok cur/\c<2^s/\val (cur.take k)+c*4294967296^k=val (l.take k)*2^s
theorem up_start (l:List Nat)(s:Nat):UpAt l s (List.replicate (l.length+1) 0) 0 0:=
 ⟨by simp,λd hd=>by rw[List.mem_replicate] at hd;omega,Nat.two_pow_pos s,by simp[val]⟩
theorem up_carry {x s c:Nat}(hx:x<4294967296)(hc:c<2^s):(x*2^s+c)/4294967296<2^s:=by
 rw[Nat.div_lt_iff_lt_mul (by omega)];have:(x+1)*2^s<=4294967296*2^s:=Nat.mul_le_mul_right _ hx;rw[Nat.succ_mul] at this;rw[Nat.mul_comm (2^s)];omega
theorem up_step {l cur:List Nat}{s k c:Nat}(hl:Ok l)(h:UpAt l s cur k c)(hk:k<l.length):UpAt l s (cur.set k ((l[k]*2^s+c)%4294967296)) (k+1) ((l[k]*2^s+c)/4294967296):=by
 obtain⟨h1,h2,h3,h4⟩:=h;have hx:=ok_get hl hk;refine⟨by simpa using h1,Hh h2 (Nat.mod_lt _ (by omega)),up_carry hx h3,?_⟩;rw[Nh (by omega),val_take_succ hk,Nat.pow_succ];have e:=Nat.mod_add_div (l[k]*2^s+c) 4294967296;generalize(l[k]*2^s+c)%4294967296=m at*;generalize(l[k]*2^s+c)/4294967296=t at*;generalize 4294967296^k=p at*;generalize l[k]=x at*;generalize val (cur.take k)=V at*;generalize 2^s=q at*
 grind
theorem up_end {l cur:List Nat}{s c:Nat}(hs:s<=32)(h:UpAt l s cur l.length c):Ok (cur.set l.length c)/\(cur.set l.length c).length=l.length+1/\val (cur.set l.length c)=val l*2^s:=by
 obtain⟨h1,h2,h3,h4⟩:=h;have hp:2^s<=2^32:=Nat.pow_le_pow_right (by omega) hs;refine⟨Hh h2 (by omega),by simpa using h1,?_⟩;have e1:(cur.set l.length c).take (l.length+1)=cur.set l.length c:=List.take_of_length_le (by rw[List.length_set];omega);have k1:=Nh (x:=c) (show l.length<cur.length by omega);rw[e1] at k1;rw[List.take_length] at h4;rw[k1,<-h4,Nat.mul_comm]
def DownAt (l:List Nat)(s:Nat)(cur:List Nat)(k ab:Nat):Prop:=
 cur.length=l.length/\Ok cur/\ab<4294967296/\ab=val (l.drop k)%4294967296/\val (cur.drop k)=val (l.drop k)/2^s
theorem down_start (l:List Nat)(s:Nat):DownAt l s (List.replicate l.length 0) l.length 0:=
 ⟨by simp,λd hd=>by rw[List.mem_replicate] at hd;omega,by omega,by simp[val],by simp[val]⟩
theorem Vda {x V s p:Nat}(hx:x<4294967296)(hs:4294967296=2^s*p):(x+4294967296*V)/2^s=(V%4294967296*4294967296+x)/2^s%4294967296+4294967296*(V/2^s):=by
 have hq:=Nat.two_pow_pos s;generalize 2^s=q at*;have e1:=Nat.div_add_mod V q;have r1:=Nat.mod_lt V hq;generalize V/q=Q at*;generalize V%q=R at*;have e2:=Nat.div_add_mod V 4294967296;generalize V/4294967296=m at*;generalize V%4294967296=a at*;have hb:(x+4294967296*R)/q<4294967296:=by
  rw[Nat.div_lt_iff_lt_mul hq];have:(R+1)*4294967296<=q*4294967296:=Nat.mul_le_mul_right _ r1;rw[Nat.succ_mul] at this;rw[Nat.mul_comm 4294967296 q];omega
 have h1:(x+4294967296*V)/q=(x+4294967296*R)/q+4294967296*Q:=by
  rw[<-e1,show x+4294967296*(q*Q+R)=x+4294967296*R+q*(4294967296*Q) by grind,Nat.add_mul_div_left _ _ hq]
 have h2:(a*4294967296+x)/q+4294967296*(p*m)=(x+4294967296*R)/q+4294967296*Q:=by
  rw[<-h1,<-e2,show x+4294967296*(4294967296*m+a)=a*4294967296+x+4294967296*4294967296*m by grind];have:4294967296*4294967296*m=q*(4294967296*(p*m)):=by
   rw[Nat.mul_left_comm q,<-Nat.mul_assoc q,<-hs,Nat.mul_assoc]
  rw[this,Nat.add_mul_div_left _ _ hq]
 rw[h1];have h3:(a*4294967296+x)/q%4294967296=(x+4294967296*R)/q:=by
  generalize(a*4294967296+x)/q=u at*;generalize(x+4294967296*R)/q=v at*;generalize p*m=t at*;omega
 rw[h3]
theorem Kc {l:List Nat}{k:Nat}(h:k<l.length):val (l.drop k)=l[k]+4294967296*val (l.drop (k+1)):=by
 rw[List.drop_eq_getElem_cons h,val]
theorem down_step {l cur:List Nat}{s k ab:Nat}(hl:Ok l)(hs:s<=32)(h:DownAt l s cur (k+1) ab)(hk:k<l.length):DownAt l s (cur.set k ((ab*4294967296+l[k])/2^s%4294967296)) k l[k]:=by
 obtain⟨h1,h2,h3,h4,h5⟩:=h;have hx:=ok_get hl hk;refine⟨by simpa using h1,Hh h2 (Nat.mod_lt _ (by omega)),hx,?_,?_⟩
 ·rw[Kc hk];omega
 have hk':k<(cur.set k ((ab*4294967296+l[k])/2^s%4294967296)).length:=by rw[List.length_set];omega
 rw[Kc hk,Kc hk',List.getElem_set_self,drop_set,h5,h4];refine(Vda (p:=2^(32-s)) hx ?_).symm;rw[<-Nat.pow_add,show s+(32-s)=32 by omega]
theorem down_end {l cur:List Nat}{s ab:Nat}(h:DownAt l s cur 0 ab):val cur=val l/2^s:=by
 have:=h.2.2.2.2
 simpa using this
structure LongAt (X D n:Nat) (cur quo:List Nat) (k:Nat):Prop where
 ok:Ok cur
 okq:Ok quo
 len:cur.length=quo.length+n
 sum:val cur+D*val (quo.drop k)*4294967296^k=X
 lt:val (cur.drop k)<D
 hi:D<4294967296^n
theorem LongAt.window {X D n k:Nat}{cur quo:List Nat}(h:LongAt X D n cur quo (k+1))(hk:k<quo.length):
 ((cur.drop k).take (n+1)).length=n+1/\Ok ((cur.drop k).take (n+1))/\val ((cur.drop k).take (n+1))<4294967296*D/\val ((cur.drop k).take (n+1))=val (cur.drop k)/\
 cur=cur.take k++((cur.drop k).take (n+1)++cur.drop (k+(n+1)))/\(cur.take k).length=k:=by
 have hl:=h.len;have h1:val (cur.drop k)<4294967296*D:=by
  have hkc:k<cur.length:=by omega
  rw[Kc hkc];have:=ok_get h.ok hkc;have:=h.lt;omega
 have h2:val (cur.drop k)=val ((cur.drop k).take (n+1))+4294967296^(n+1)*val ((cur.drop k).drop (n+1)):=Se _ _ (by rw[List.length_drop];omega);have h3:val ((cur.drop k).drop (n+1))=0:=by
  rcases Nat.eq_zero_or_pos (val ((cur.drop k).drop (n+1))) with h0 |h0
  ·exact h0
  exfalso
  have:4294967296^(n+1)*1<=4294967296^(n+1)*val ((cur.drop k).drop (n+1)):=Nat.mul_le_mul_left _ h0;have hh:=h.hi;rw[Nat.pow_succ] at this h2;generalize 4294967296^n=p at*;omega
 rw[h3,Nat.mul_zero,Nat.add_zero] at h2;refine⟨by rw[List.length_take,List.length_drop];omega,ok_take (X7 h.ok _) _,by omega,h2.symm,?_,by rw[List.length_take];omega⟩;rw[<-List.drop_drop,List.take_append_drop,List.take_append_drop]
theorem LongAt.step {X D n k q:Nat}{cur quo win:List Nat}(h:LongAt X D n cur quo (k+1))(hk:k<quo.length)(hwl:win.length=n+1)(hwo:Ok win)
 (hq:q<4294967296) (hlt:val win<D) (hv:val win+q*D=val ((cur.drop k).take (n+1))):LongAt X D n (cur.take k++(win++cur.drop (k+(n+1)))) (quo.set k q) k:=by
 obtain⟨w1,w2,w3,w4,w5,w6⟩:=h.window hk;have hl:=h.len;have hz:val (cur.drop (k+(n+1)))=0:=by
  have h2:val (cur.drop k)=val ((cur.drop k).take (n+1))+4294967296^(n+1)*val ((cur.drop k).drop (n+1)):=Se _ _ (by rw[List.length_drop];omega);rw[List.drop_drop,w4] at h2;have h0:4294967296^(n+1)*val (cur.drop (k+(n+1)))=0:=by omega
  rcases Nat.mul_eq_zero.1 h0 with h0 |h0
  ·have:=Nat.pow_pos (a:=4294967296) (n:=n+1) (by omega);omega
  exact h0
 have hdrop:(cur.take k++(win++cur.drop (k+(n+1)))).drop k=win++cur.drop (k+(n+1)):=by
  rw[List.drop_append_of_le_length (by omega),List.drop_of_length_le (by omega),List.nil_append]
 refine⟨?_,Hh h.okq hq,?_,?_,?_,h.hi⟩
 ·intro d hd
  rw[List.mem_append,List.mem_append] at hd;rcases hd with hd |hd |hd
  ·exact ok_take h.ok _ d hd
  ·exact hwo d hd
  exact X7 h.ok _ d hd
 ·rw[List.length_append,List.length_append,List.length_set,List.length_drop];omega
 ·have hs:=h.sum
  have e1:val cur=val (cur.take k)+4294967296^k*val (cur.drop k):=Se _ _ (by omega);rw[Kc (l:=quo.set k q) (by rw[List.length_set];exact hk),List.getElem_set_self,drop_set,Sc,Sc,hz,w6];rw[e1,<-w4,<-hv,Nat.pow_succ] at hs;generalize 4294967296^k=p at*;generalize val (quo.drop (k+1))=Q at*;generalize val win=W at*;generalize val (cur.take k)=V at*;rw[Nat.mul_zero,Nat.add_zero];clear h w1 w2 w3 w4 w5 hz hdrop e1
  grind
 rw[hdrop,Sc,hz];omega
theorem LongAt.start {x y n s:Nat}{cur:List Nat}{m:Nat}(ok:Ok cur)(hv:val cur=x*2^s)(hl:cur.length=m+1)(hn:n<=m)(hn1:1<=n)(hx:x<4294967296^m)(hy:4294967296^(n-1)<=y)(hD:y*2^s<4294967296^n):
 LongAt (x*2^s) (y*2^s) n cur (List.replicate (m-n+1) 0) (m-n+1):=by
 refine⟨ok,λd hd=>by rw[List.mem_replicate] at hd;omega,by simp;omega,?_,?_,hD⟩
 ·rw[List.drop_of_length_le (by simp),val,Nat.mul_zero,Nat.zero_mul,hv];rfl
 have h2:val cur=val (cur.take (m-n+1))+4294967296^(m-n+1)*val (cur.drop (m-n+1)):=Se _ _ (by omega);have h3:x*2^s<y*2^s*4294967296^(m-n+1):=by
  have e:4294967296^m=4294967296^(n-1)*4294967296^(m-n+1):=by rw[<-Nat.pow_add,show n-1+(m-n+1)=m by omega]
  have k1:4294967296^(n-1)*4294967296^(m-n+1)<=y*4294967296^(m-n+1):=Nat.mul_le_mul_right _ hy;have k2:x<y*4294967296^(m-n+1):=by omega
  have:=Nat.mul_lt_mul_of_pos_right k2 (Nat.two_pow_pos s)
  grind
 have h4:4294967296^(m-n+1)*val (cur.drop (m-n+1))<4294967296^(m-n+1)*(y*2^s):=by
  rw[Nat.mul_comm _ (y*2^s)];omega
 exact Nat.lt_of_mul_lt_mul_left h4
theorem LongAt.done {x y n s:Nat}{cur quo:List Nat}(h:LongAt (x*2^s) (y*2^s) n cur quo 0)(hy:0<y):
 val quo=x/y/\val (cur.take n)/2^s=x%y:=by
 have h1:=h.sum;have h2:=h.lt;rw[List.drop_zero] at h1 h2;rw[Nat.pow_zero,Nat.mul_one] at h1;have hp:=Nat.two_pow_pos s;have hD:0<y*2^s:=Nat.mul_pos hy hp;have hq:val quo=x/y:=by
  rw[<-Nat.mul_div_mul_right x y hp,<-h1,Nat.add_mul_div_left _ _ hD,Nat.div_eq_of_lt h2,Nat.zero_add]
 have hr:val cur=x%y*2^s:=by
  rw[<-Nat.mul_mod_mul_right,<-h1,Nat.add_mul_mod_self_left,Nat.mod_eq_of_lt h2]
 have ht:val (cur.take n)=val cur:=by
  have h3:val cur=val (cur.take n)+4294967296^n*val (cur.drop n):=Se _ _ (by have:=h.len;omega);rcases Nat.eq_zero_or_pos (val (cur.drop n)) with h0 |h0
  ·rw[h0,Nat.mul_zero,Nat.add_zero] at h3;exact h3.symm
  exfalso
  have:4294967296^n*1<=4294967296^n*val (cur.drop n):=Nat.mul_le_mul_left _ h0;have:=h.hi;omega
 refine⟨hq,?_⟩;rw[ht,hr,Nat.mul_div_cancel _ hp]
theorem round_ok {R D g b V p:Nat}(hg:R/D<=g)(hg2:g<=R/D+1)(hD:0<D)(hR:R<p)(hV:V<p)(e:V+g*D=R+b*p)(hb:b<=1)(hDp:D<p):
 (b=0->g=R/D/\V<D/\V+g*D=R)/\(b=1->g=R/D+1/\∀W e',W<p->W+e'*p=V+D->W<D/\W+(g-1)*D=R):=by
 have h1:=Nat.div_add_mod R D;have h2:=Nat.mod_lt R hD;rw[Nat.mul_comm] at h1;have hcase:g=R/D\/g=R/D+1:=by omega
 generalize R/D=q at*;generalize R%D=r at*;rcases hcase with rfl |rfl
 ·have hb0:b=0:=by
   rcases Nat.eq_zero_or_pos b with h |h
   ·exact h
   have:b=1:=by omega
   subst this;omega
  subst hb0;refine⟨λ_=>⟨rfl,by omega,by omega⟩,λh=>by omega⟩
 rw[Nat.succ_mul] at e;refine⟨λh=>by subst h;omega,λh=>?_⟩;subst h;refine⟨rfl,λW e' hW he=>?_⟩;rw[Nat.add_sub_cancel];have:e'=1:=by
  rcases Nat.lt_or_ge e' 1 with h |h
  ·have:e'=0:=by omega
   subst this;omega
  rcases Nat.lt_or_ge e' 2 with h' |h'
  ·omega
  exfalso
  have:2*p<=e'*p:=Nat.mul_le_mul_right _ h';omega
 subst this;omega
end Nt
namespace Go.Proofs.YtceplkpjnebnfaaGreatDoor
open Go.RowKit
theorem Blk.mid {w:World}{g:Nat}{t:TypeId}{pre post:List Value}{l:List Nat}(h:Blk w g t (pre++(U l++post))){k x:Nat}(hk:l[k]? =some x):w.cell? ⟨g,pre.length+k,none⟩=some (.int .u32 (x:Int)):=by
 apply h.cell
 have hkl:k<l.length:=by
  rcases Nat.lt_or_ge k l.length with h |h
  ·exact h
  rw[List.getElem?_eq_none h] at hk;cases hk
 rw[List.getElem?_append_right (by omega),Nat.add_sub_cancel_left,List.getElem?_append_left (by rw[Ig];omega),U,List.getElem?_map,hk];rfl
theorem Blk.mid_set {w:World}{g:Nat}{t:TypeId}{pre post:List Value}{l:List Nat}(h:Blk w g t (pre++(U l++post))){k:Nat}(hk:k<l.length)(x:Nat):Blk (w.setCell ⟨g,pre.length+k,none⟩ (.int .u32 (x:Int))) g t (pre++(U (l.set k x)++post)):=by
 have:=h.set_ (pre.length+k) (.int .u32 (x:Int));rw[List.set_append_right _ _ (by omega),Nat.add_sub_cancel_left,List.set_append_left _ _ (by rw[Ig];omega),show(U l).set k (.int .u32 (x:Int))=U (l.set k x) from List.map_set.symm] at this;exact this
theorem D6 (G c c' T:Nat)(A':Option Addr)(pre post:List Value)(a d:List Nat)(w:World)(hblk:Blk w G 90 (pre++(U a++post)))(hy:Lies w G A' (U d))(ha:Nt.Ok a)(hd:Nt.Ok d)(hl:a.length=d.length+1)(hc:d.length+1<=c)(hc':d.length<=c')(hm:c<=9223372036854775807)(hm':c'<=9223372036854775807)(hT:T<4294967296)(hs:d.length<=1000000):
 Calls Tryz.prog 217 #[.slice (some ⟨G,pre.length,none⟩) (d.length+1) c,.slice A' d.length c',.int .u64 (T:Int)] w λe w'=>∃(cur:List Nat) (b:Nat),e= .returned (.bool (decide (b=1)))/\b<=1/\Blk w' G 90 (pre++(U cur++post))/\Hid (cur.length=a.length/\Nt.Ok cur/\Nt.val cur+T*Nt.val d=Nt.val a+b*4294967296^(d.length+1))/\w.grownBy w' (some G):=by
 have HL:=Qd hl;have OA:=Qd ha;have OD:=Qd hd;have LY:=Qd hy;have HG:=hblk.lt;clear ha hd hy hl;have BM:=Qd (λ(wr:World) (l:List Nat) (h:Blk wr G 90 (pre++(U l++post))) (k x:Nat) (hk:l[k]? =some x)=>h.mid hk);have BS:=Qd (λ(wr:World) (l:List Nat) (h:Blk wr G 90 (pre++(U l++post))) (k:Nat) (hk:k<l.length) (x:Nat)=>h.mid_set hk x);generalize pre.length=j at*;go_enter Tryz.func217,Tryz.ntmps217
 go_wp2_with fail
 go_loopw [7,8,15] (λcv bv i wr=>∃(k cy b:Nat) (cur:List Nat),k<=d.length/\cy<4294967296/\b<=1/\i= .int .i64 (k:Int)/\cv= .int .u64 (cy:Int)/\bv= .int .u32 (b:Int)/\Blk wr G 90 (pre++(U cur++post))/\w.grownBy wr (some G)/\Hid (Nt.TakeAt a d T cur k cy b)) (λ_ _ i _=>d.length-(intOf i).toNat)
 case atStart=>exact⟨0,0,0,a,Nat.zero_le _,by omega,by omega,rfl,rfl,rfl,hblk,World.grownBy.refl _ _,Qd (Nt.take_start OA.out)⟩
 case round=>
  clear hblk;obtain⟨k,cy,b,cur,hk,hcy,hb1,rfl,rfl,rfl,hblk,hgr,H⟩:=hrel;have hsz:=hblk.lt;by_cases hlt:k<d.length
  ·have hka:k<a.length:=by rw[HL.out];omega
   obtain⟨b2,off2,rfl,hb2,hc2⟩:=(LY.out.grown (Nat.le_of_lt HG) hgr (λg e=>by injection e with e;omega)).limb hlt;have hyb:=Nt.ok_get OD.out hlt;have hxb:=Nt.ok_get OA.out hka;have hcell:=BM.out _ _ hblk k _ (Nt.take_get H.out hka);have hfz:=hblk.frozen (j+k);have BSK:=Qd (BS.out _ _ hblk k (by rw[H.out.1];exact hka));have ST:=Qd (λs cy' b' t=>Nt.take_step (s:=s) (cy':=cy') (b':=b') (t:=t) H.out hka hlt);have hmb:=Nt.mul_bound hT hyb;generalize d[k]=y at*;generalize a[k]=x at*;obtain⟨p,hp⟩:∃p:Nat,p=T*y:=⟨_,rfl⟩;have hpi:(T:Int)*(y:Int)=(p:Int):=by rw[hp,Int.natCast_mul]
   have hpl:p<=18446744065119617025:=by rw[hp];exact hmb
   have HPN:=Qd hp;clear hp hmb hblk hka;have em:((p:Int)+(cy:Int))%4294967296=(((p+cy)%4294967296:Nat):Int):=by omega
   have hsub:=Qd (λw=>Hw x ((p+cy)%4294967296) b w hxb (by omega) hb1);rw[<-em] at hsub;clear em;go_wp2_with (go_at_call 227;refine(hsub.out _).mono ?_;rintro e w' ⟨s,b',rfl,hs,hd1,HE,rfl⟩)
   go_roundw
   case rel=>exact⟨k+1,(p+cy)/4294967296,b',cur.set k s,by omega,by omega,hd1,by go_num,congrArg (Value.int .u64) (by omega),rfl,BSK.out s,Ej hgr _ _,Qd (ST.out s _ b' ((p+cy)%4294967296) hs (by rw[<-HPN.out];omega) (by have:=HE.out;omega))⟩
   case measure=>simp[intOf];omega
  obtain rfl:k=d.length:=by omega
  have hka:d.length<a.length:=by rw[HL.out];omega
  have hxb:=Nt.ok_get OA.out hka;have hcell:=BM.out _ _ hblk _ _ (Nt.take_get H.out hka);have hfz:=hblk.frozen (j+d.length);have BSK:=Qd (BS.out _ _ hblk d.length (by rw[H.out.1];exact hka));have EN:=Qd (λs b'=>Nt.take_end (s:=s) (b':=b') H.out HL.out);generalize hx:a[d.length]=x at hxb hcell;have HX:=Qd hx;clear hblk hx;have hsub:=Qd (λw=>Hw x cy b w hxb hcy hb1);go_wp2_with (go_at_call 227;refine(hsub.out _).mono ?_;rintro e w' ⟨s,b',rfl,hs,hd1,HE,rfl⟩)
  go_ret;refine⟨cur.set d.length s,b',Aa ?_,hd1,BSK.out s,Qd (EN.out s b' hs (by rw[HX.out];exact HE.out)),Ej hgr _ _⟩;rcases(show b'=0\/b'=1 by omega) with rfl |rfl<;>rfl
theorem E6 (G c c':Nat)(A':Option Addr)(pre post:List Value)(a d:List Nat)(w:World)(hblk:Blk w G 90 (pre++(U a++post)))(hy:Lies w G A' (U d))(ha:Nt.Ok a)(hd:Nt.Ok d)(hl:a.length=d.length+1)(hc:d.length+1<=c)(hc':d.length<=c')(hm:c<=9223372036854775807)(hm':c'<=9223372036854775807)(hs:d.length<=1000000):
 Calls Tryz.prog 218 #[.slice (some ⟨G,pre.length,none⟩) (d.length+1) c,.slice A' d.length c'] w λe w'=>∃(cur:List Nat) (b:Nat),e= .returned (.tuple #[])/\Blk w' G 90 (pre++(U cur++post))/\Hid (cur.length=a.length/\Nt.Ok cur/\Nt.val cur+b*4294967296^(d.length+1)=Nt.val a+Nt.val d)/\w.grownBy w' (some G):=by
 have HL:=Qd hl;have OA:=Qd ha;have OD:=Qd hd;have LY:=Qd hy;have HG:=hblk.lt;clear ha hd hy hl;have BM:=Qd (λ(wr:World) (l:List Nat) (h:Blk wr G 90 (pre++(U l++post))) (k x:Nat) (hk:l[k]? =some x)=>h.mid hk);have BS:=Qd (λ(wr:World) (l:List Nat) (h:Blk wr G 90 (pre++(U l++post))) (k:Nat) (hk:k<l.length) (x:Nat)=>h.mid_set hk x);generalize pre.length=j at*;go_enter Tryz.func218,Tryz.ntmps218
 go_wp2_with fail
 go_loopw [4,9] (λbv i wr=>∃(k b:Nat) (cur:List Nat),k<=d.length/\b<=1/\i= .int .i64 (k:Int)/\bv= .int .u32 (b:Int)/\Blk wr G 90 (pre++(U cur++post))/\w.grownBy wr (some G)/\Hid (Nt.PutAt a d cur k b)) (λ_ i _=>d.length-(intOf i).toNat)
 case atStart=>exact⟨0,0,a,Nat.zero_le _,by omega,rfl,rfl,hblk,World.grownBy.refl _ _,Qd (Nt.put_start OA.out)⟩
 case round=>
  clear hblk;obtain⟨k,b,cur,hk,hb1,rfl,rfl,hblk,hgr,H⟩:=hrel;have hsz:=hblk.lt;by_cases hlt:k<d.length
  ·have hka:k<a.length:=by rw[HL.out];omega
   obtain⟨b2,off2,rfl,hb2,hc2⟩:=(LY.out.grown (Nat.le_of_lt HG) hgr (λg e=>by injection e with e;omega)).limb hlt;have hyb:=Nt.ok_get OD.out hlt;have hxb:=Nt.ok_get OA.out hka;have hcell:=BM.out _ _ hblk k _ (Nt.put_get H.out hka);have hfz:=hblk.frozen (j+k);have BSK:=Qd (BS.out _ _ hblk k (by rw[H.out.1];exact hka));have ST:=Qd (λs c'=>Nt.put_step (s:=s) (c':=c') H.out hka hlt);generalize d[k]=y at*;generalize a[k]=x at*;clear hblk hka;have hadd:=Qd (λw=>Rda x y b w hxb hyb hb1);go_wp2_with (go_at_call 228;refine(hadd.out _).mono ?_;rintro e w' ⟨s,b',rfl,hs,hd1,HE,rfl⟩)
   go_roundw
   case rel=>exact⟨k+1,b',cur.set k s,by omega,hd1,by go_num,rfl,BSK.out s,Ej hgr _ _,Qd (ST.out s b' hs HE.out)⟩
   case measure=>simp[intOf];omega
  obtain rfl:k=d.length:=by omega
  have hka:d.length<a.length:=by rw[HL.out];omega
  have hxb:=Nt.ok_get OA.out hka;have hcell:=BM.out _ _ hblk _ _ (Nt.put_get H.out hka);have hfz:=hblk.frozen (j+d.length);have BSK:=Qd (BS.out _ _ hblk d.length (by rw[H.out.1];exact hka));have EN:=Qd (λs b'=>Nt.put_end (s:=s) (c':=b') H.out HL.out);generalize hx:a[d.length]=x at hxb hcell;have HX:=Qd hx;clear hblk hx;have em:((x:Int)+(b:Int))%4294967296=(((x+b)%4294967296:Nat):Int):=by omega
  have EM:=Qd em;clear em;go_wp2_with fail
  rw[EM.out];go_end0
  refine⟨cur.set d.length ((x+b)%4294967296),(x+b)/4294967296,rfl,BSK.out _,Qd (EN.out _ _ (by omega) (by rw[HX.out];omega)),Ej hgr _ _⟩
theorem Mna {x s c:Nat}(hx:x<4294967296)(hs:s<32)(hc:c<2^s):bits BinOp.or IntKind.u64 (IntKind.u64.wrap ((x:Int)*2^s)) (c:Int)=((x*2^s+c:Nat):Int):=by
 have hp:2^s<=2147483648:=Nat.pow_le_pow_right (n:=2) (by omega) (show s<=31 by omega);have h1:x*2^s<=4294967295*2147483648:=Nat.mul_le_mul (by omega) hp;have e:(x:Int)*2^s=((x*2^s:Nat):Int):=by rw[Int.natCast_mul,Int.natCast_pow];rfl
 rw[e,IntKind.wrap_u64,Int.emod_eq_of_lt (by omega) (by omega),u64_or_nat _ _ (by omega) (by omega),nat_join s _ _ (Nat.mul_mod_left _ _) hc]
theorem Wda (A:Option Addr)(c B s:Nat)(l:List Nat)(w:World)(hx:Lies w B A (U l))(hB:B<=w.heap.size)(ho:Nt.Ok l)(hc:l.length<=c)(hm:c<=9223372036854775807)(hs:l.length<=1000000)(hs32:s<32):
 Calls Tryz.prog 215 #[.slice A l.length c,.int .i64 (s:Int)] w λe w'=>∃cur:List Nat,e= .returned (.slice (some ⟨w.heap.size,0,none⟩) (l.length+1) (l.length+1))/\Blk w' w.heap.size 90 (U cur)/\Hid (Nt.Ok cur/\cur.length=l.length+1/\Nt.val cur=Nt.val l*2^s)/\Below w.heap.size w w':=by
 obtain⟨i0,hi,hz0,hz1,hz2⟩:=info_parts Ye;have OL:=Qd ho;have LX:=Qd (hx.more hB);clear ho hx hB;go_enter Tryz.func215,Tryz.ntmps215
 go_wp2_with (at_make;refine Ad _ rfl _ _ 22 rfl 90 i0 (.int .u32 0) Tryz.underlying22 hi hz0 hz1 rfl .i64 .i64 _ _ (l.length+1) (l.length+1) rfl rfl (by go_num) (by go_num) Lr (by rw[hz2];omega) (by omega) w.heap.size w Br Lr ?_;intro w1 hblk1 hb1 hb1' hlt1)
 have hblk0:Blk w1 w.heap.size 90 (U (List.replicate (l.length+1) 0)):=by simpa [U] using hblk1
 clear hblk1 hb1' hlt1;go_loopw [6,16] (λcv i wr=>∃(k cy:Nat) (cur:List Nat),k<=l.length/\cy<2^s/\i= .int .i64 (k:Int)/\cv= .int .u64 (cy:Int)/\Blk wr w.heap.size 90 (U cur)/\Below w.heap.size w wr/\Hid (Nt.UpAt l s cur k cy)) (λ_ i _=>l.length-(intOf i).toNat)
 case atStart=>exact⟨0,0,_,Nat.zero_le _,Nat.two_pow_pos s,rfl,rfl,hblk0,hb1,Qd (Nt.up_start l s)⟩
 case round=>
  clear hblk0 hb1;obtain⟨k,cy,cur,hk,hcy,rfl,rfl,hblk,hbel,H⟩:=hrel;have hsz:=hblk.lt;have hcl:cur.length=l.length+1:=H.out.1;by_cases hlt:k<l.length
  ·obtain⟨b2,off2,rfl,hb2,hc2⟩:=(LX.out.below hbel).limb hlt
   have hxb:=Nt.ok_get OL.out hlt;have hcell:wr.cell? ⟨w.heap.size,k,none⟩=some (.int .u32 ((cur[k]:Nat):Int)):=hblk.cell (by rw[U,List.getElem?_map,List.getElem?_eq_getElem (by omega)];rfl);have hfz:=hblk.frozen k;have ST:=Qd (Nt.up_step OL.out H.out hlt);have UC:=Qd (Nt.up_carry hxb hcy);have BS:Hid (∀s:Nat,Blk (wr.setCell ⟨w.heap.size,k,none⟩ (.int .u32 (s:Int))) w.heap.size 90 (U (cur.set k s))):=Qd (λs=>by
    have:=hblk.set_ k (.int .u32 (s:Int));rw[show(U cur).set k (.int .u32 (s:Int))=U (cur.set k s) from List.map_set.symm] at this;exact this)
   generalize cur[k]=o at hcell;generalize l[k]=x at*;clear hblk;have HSO:=Qd (Mna hxb hs32 hcy);have hp:2^s<=2147483648:=Nat.pow_le_pow_right (n:=2) (by omega) (show s<=31 by omega);have hmul:x*2^s<=4294967295*2147483648:=Nat.mul_le_mul (by omega) hp;have HP:=Qd (And.intro hp hmul);clear hp hmul hcl;go_wp2_with fail
   rw[HSO.out];have h1:=HP.out;have hcy2:=UC.out;generalize x*2^s+cy=t at*;have e1:((t:Nat):Int)/4294967296=((t/4294967296:Nat):Int):=by omega
   have e2:((t:Nat):Int)%4294967296=((t%4294967296:Nat):Int):=by omega
   rw[e1,e2];refine⟨⟨k+1,t/4294967296,cur.set k (t%4294967296),by omega,hcy2,by go_num,rfl,BS.out _,hbel.setCell Lr _,ST⟩,by simp[intOf];omega⟩
  obtain rfl:k=l.length:=by omega
  have hcell:wr.cell? ⟨w.heap.size,l.length,none⟩=some (.int .u32 ((cur[l.length]:Nat):Int)):=hblk.cell (by rw[U,List.getElem?_map,List.getElem?_eq_getElem (by omega)];rfl);have hfz:=hblk.frozen l.length;have EN:=Qd (Nt.up_end (by omega) H.out);have BS:Hid (∀s:Nat,Blk (wr.setCell ⟨w.heap.size,l.length,none⟩ (.int .u32 (s:Int))) w.heap.size 90 (U (cur.set l.length s))):=Qd (λs=>by
   have:=hblk.set_ l.length (.int .u32 (s:Int));rw[show(U cur).set l.length (.int .u32 (s:Int))=U (cur.set l.length s) from List.map_set.symm] at this;exact this)
  have hcy32:cy<4294967296:=by
   have:2^s<=2^32:=Nat.pow_le_pow_right (by omega) (by omega);omega
  generalize cur[l.length]=o at hcell;clear hblk hcl hcy;go_wp2_with fail
  go_ret;refine⟨cur.set l.length cy,rfl,BS.out cy,Qd EN.out,hbel.setCell Lr _⟩
theorem Aia (A:Option Addr)(c B s:Nat)(l:List Nat)(w:World)(hx:Lies w B A (U l))(hB:B<=w.heap.size)(ho:Nt.Ok l)(hc:l.length<=c)(hm:c<=9223372036854775807)(hs:l.length<=1000000)(hs32:s<32):
 Calls Tryz.prog 219 #[.slice A l.length c,.int .i64 (s:Int)] w λe w'=>∃v,e= .returned v/\IsRes w' v (Nt.digs (Nt.val l/2^s))/\Below w.heap.size w w':=by
 obtain⟨i0,hi,hz0,hz1,hz2⟩:=info_parts Ye;have OL:=Qd ho;have LX:=Qd (hx.more hB);clear ho hx hB;go_enter Tryz.func219,Tryz.ntmps219
 go_wp2_with (at_make;refine Ad _ rfl _ _ 22 rfl 90 i0 (.int .u32 0) Tryz.underlying22 hi hz0 hz1 rfl .i64 .i64 _ _ l.length l.length rfl rfl (by go_num) (by go_num) Lr (by rw[hz2];omega) (by omega) w.heap.size w Br Lr ?_;intro w1 hblk1 hb1 hb1' hlt1)
 have hblk0:Blk w1 w.heap.size 90 (U (List.replicate l.length 0)):=by simpa [U] using hblk1
 clear hblk1 hb1' hlt1;go_loopw [6,7] (λav i wr=>∃(k ab:Nat) (cur:List Nat),k<=l.length/\ab<4294967296/\i= .int .i64 ((k:Int)-1)/\av= .int .u64 (ab:Int)/\Blk wr w.heap.size 90 (U cur)/\Below w.heap.size w wr/\Hid (Nt.DownAt l s cur k ab)) (λ_ i _=>(intOf i+1).toNat)
 case atStart=>exact⟨l.length,0,_,Lr,by omega,by go_num,rfl,hblk0,hb1,Qd (Nt.down_start l s)⟩
 case round=>
  clear hblk0 hb1;obtain⟨k,ab,cur,hk,hab,rfl,rfl,hblk,hbel,H⟩:=hrel;have hsz:=hblk.lt;rcases k with _ |k
  ·have HE:=Qd (Nt.down_end H.out)
   have HTR:=Xe (some ⟨w.heap.size,0,none⟩) l.length wr.heap.size cur wr hblk.lies H.out.2.1 (by rw[H.out.1];exact Lr) (by omega);rw[H.out.1,HE.out] at HTR;have HT:=Qd HTR;have HQ:=hblk.lies.digs H.out.2.1;have HQL:=Nt.digs_len_le H.out.2.1;rw[HE.out] at HQ HQL;rw[H.out.1] at HQL;have HQ2:=Qd HQ;clear HTR HQ hblk HE;obtain⟨v,hv⟩:∃v,v=Nt.val l/2^s:=⟨_,rfl⟩;rw[<-hv] at HT HQ2 HQL;have HV:=Qd hv;clear hv;go_wp2_with fail
   refine HT.out.mono ?_;rintro e w' ⟨rfl,rfl⟩;go_wp2_with fail
   go_ret;rw[<-HV.out];exact⟨_,rfl,⟨_,_,rfl,Lr,by omega,(λh=>by cases h),HQ2.out⟩,hbel⟩
  have hk1:((k+1:Nat):Int)-1=(k:Int):=by omega
  rw[hk1];clear hk1;have hkl:k<l.length:=by omega
  have hcl:cur.length=l.length:=H.out.1;obtain⟨b2,off2,rfl,hb2,hc2⟩:=(LX.out.below hbel).limb hkl;have hxb:=Nt.ok_get OL.out hkl;have hcell:wr.cell? ⟨w.heap.size,k,none⟩=some (.int .u32 ((cur[k]:Nat):Int)):=hblk.cell (by rw[U,List.getElem?_map,List.getElem?_eq_getElem (by omega)];rfl);have hfz:=hblk.frozen k;have ST:=Qd (Nt.down_step OL.out (by omega) H.out hkl);have BS:Hid (∀s:Nat,Blk (wr.setCell ⟨w.heap.size,k,none⟩ (.int .u32 (s:Int))) w.heap.size 90 (U (cur.set k s))):=Qd (λs=>by
   have:=hblk.set_ k (.int .u32 (s:Int));rw[show(U cur).set k (.int .u32 (s:Int))=U (cur.set k s) from List.map_set.symm] at this;exact this)
  generalize cur[k]=o at hcell;generalize l[k]=x at*;clear hblk hcl;have hj:=Et (r:=ab) (by omega) hxb;have HE:Hid ((((ab:Int)*4294967296+(x:Int))/2^s%4294967296)=(((ab*4294967296+x)/2^s%4294967296:Nat):Int)):=Qd (by
   rw[Int.natCast_emod,Int.natCast_ediv,Int.natCast_add,Int.natCast_mul,Int.natCast_pow];rfl)
  go_wp2_with fail
  rw[HE.out];refine⟨⟨k,x,_,by omega,hxb,rfl,rfl,BS.out _,hbel.setCell Lr _,ST⟩,by simp[intOf];try omega⟩
end Go.Proofs.YtceplkpjnebnfaaGreatDoor
namespace Nt
theorem Bia {l:List Nat}{m:Nat}(h:l.length=m+2):val l=val (l.take m)+4294967296^m*(l[m]+4294967296*l[m+1]):=by
 have e:=Se l m (by omega);rw[Kc (by omega),Kc (k:=m+1) (by omega),List.drop_of_length_le (show l.length<=m+1+1 by omega),val,Nat.mul_zero] at e;exact e
theorem Cia {l:List Nat}{m:Nat}(h:l.length=m+3):val l=val (l.take m)+4294967296^m*(l[m]+4294967296*(l[m+1]+4294967296*l[m+2])):=by
 have e:=Se l m (by omega);rw[Kc (by omega),Kc (k:=m+1) (by omega),Kc (k:=m+1+1) (by omega),List.drop_of_length_le (show l.length<=m+1+1+1 by omega),val,Nat.mul_zero] at e;exact e
theorem Xi {l:List Nat}(h:Ok l){m:Nat}(hm:m<=l.length):val (l.take m)<4294967296^m:=by
 have:=val_lt (ok_take h m);rwa[List.length_take,Nat.min_eq_left hm] at this
theorem est_of {a d:List Nat}{m:Nat}(ha:Ok a)(hd:Ok d)(hla:a.length=m+3)(hld:d.length=m+2)(h31:2147483648<=d[m+1])(hlt:val a<4294967296*val d):
 Est (val a) (val d) (4294967296^m) d[m+1] d[m] a[m+2] a[m+1] a[m] where
 d:=⟨val (d.take m),Xi hd (by omega),by rw[Bia hld];generalize 4294967296^m=p;generalize val (d.take m)=V;grind⟩
 r:=⟨val (a.take m),Xi ha (by omega),by rw[Cia hla];generalize 4294967296^m=p;generalize val (a.take m)=V;grind⟩
 v1lo:=h31
 v1hi:=ok_get hd _
 v2hi:=ok_get hd _
 u1hi:=ok_get ha _
 u2hi:=ok_get ha _
 lt:=hlt
structure EstAt (R D p v1 v2 u0 u1 u2 g t:Nat):Prop where
 e:Est R D p v1 v2 u0 u1 u2
 sum:g*v1+t=u0*4294967296+u1
 ge:R/D<=g
theorem est_start {R D p v1 v2 u0 u1 u2:Nat}(h:Est R D p v1 v2 u0 u1 u2):EstAt R D p v1 v2 u0 u1 u2 ((u0*4294967296+u1)/v1) ((u0*4294967296+u1)%v1) where
 e:=h
 sum:=by rw[Nat.mul_comm];exact Nat.div_add_mod _ _
 ge:=h.first
theorem EstAt.le {R D p v1 v2 u0 u1 u2 g t:Nat}(h:EstAt R D p v1 v2 u0 u1 u2 g t):g<=8589934592:=by
 have h1:=h.e.u0;have h2:=h.sum;have h3:=h.e.v1lo;have h4:=h.e.v1hi;rcases Nat.lt_or_ge 8589934592 g with h5 |h5
 ·exfalso
  have h6:8589934593*v1<=g*v1:=Nat.mul_le_mul_right _ h5;generalize g*v1=z at*;omega
 exact h5
theorem EstAt.step {R D p v1 v2 u0 u1 u2 g t:Nat}(h:EstAt R D p v1 v2 u0 u1 u2 g t)(ht:4294967296<=g\/t*4294967296+u2<g*v2):1<=g/\EstAt R D p v1 v2 u0 u1 u2 (g-1) (t+v1):=by
 have h1:=h.e.less h.sum h.ge ht;have hg:1<=g:=Nat.le_trans (Nat.le_add_left _ _) h1;refine⟨hg,h.e,?_,Nat.le_sub_one_of_lt h1⟩;clear h1 ht;rw[<-h.sum];obtain⟨m,rfl⟩:∃m,g=m+1:=⟨g-1,by omega⟩;rw[Nat.add_sub_cancel,Nat.succ_mul];omega
theorem EstAt.done {R D p v1 v2 u0 u1 u2 g t:Nat}(h:EstAt R D p v1 v2 u0 u1 u2 g t)(hg:g<4294967296)(ht:g*v2<=t*4294967296+u2):R/D<=g/\g<=R/D+1/\g<4294967296:=
 ⟨h.ge,h.e.near h.sum hg ht,hg⟩
theorem EstAt.broke {R D p v1 v2 u0 u1 u2 g t:Nat}(h:EstAt R D p v1 v2 u0 u1 u2 g t)(ht:4294967296<=t):R/D<=g/\g<=R/D+1/\g<4294967296:=by
 have h1:=h.e.u0;have h2:=h.sum;have h3:=h.e.v1lo;have hg:g<4294967296:=by
  rcases Nat.lt_or_ge g 4294967296 with h5 |h5
  ·exact h5
  exfalso
  have h6:4294967296*v1<=g*v1:=Nat.mul_le_mul_right _ h5;generalize g*v1=z at*;omega
 refine h.done hg ?_;have h7:g*v2<=4294967296*4294967296:=Nat.mul_le_mul (by omega) (by have:=h.e.v2hi;omega);omega
theorem Dia {l:List Nat}{n v:Nat}(h:Ok l)(hl:l.length=n+1)(hv:val l=v)(hlt:v<4294967296^n):val (l.take n)=v:=by
 have h1:=val_take_succ (l:=l) (i:=n) (by omega);rw[List.take_of_length_le (by omega)] at h1;rcases Nat.eq_zero_or_pos l[n] with h0 |h0
 ·rw[h0,Nat.mul_zero,Nat.add_zero] at h1;omega
 exfalso
 have:4294967296^n*1<=4294967296^n*l[n]:=Nat.mul_le_mul_left _ h0;omega
theorem Xda {y s m:Nat}(t:Nat)(hy:y<(t+1)*4294967296^m)(hs:s<=32)(ht:t*2^s<4294967296):y*2^s<4294967296^(m+1):=by
 have h1:y*2^s<(t+1)*4294967296^m*2^s:=Nat.mul_lt_mul_of_pos_right hy (Nat.two_pow_pos s);have h2:(t+1)*2^s<=4294967296:=by
  have e:4294967296=2^(32-s)*2^s:=by rw[<-Nat.pow_add,show 32-s+s=32 by omega]
  have h3:t<2^(32-s):=by rw[e] at ht;exact Nat.lt_of_mul_lt_mul_right ht
  have h4:(t+1)*2^s<=2^(32-s)*2^s:=Nat.mul_le_mul_right _ h3;rw[<-e] at h4;exact h4
 have h5:(t+1)*2^s*4294967296^m<=4294967296*4294967296^m:=Nat.mul_le_mul_right _ h2;rw[Nat.pow_succ];have e2:(t+1)*4294967296^m*2^s=(t+1)*2^s*4294967296^m:=by rw[Nat.mul_assoc,Nat.mul_assoc,Nat.mul_comm (2^s)]
 rw[e2] at h1;rw[Nat.mul_comm (4294967296^m)];exact Nat.lt_of_lt_of_le h1 h5
theorem top_bit {d:List Nat}{m x:Nat}(hd:Ok d)(hl:d.length=m+1)(hv:2147483648*4294967296^m<=val d):2147483648<=d[m]:=by
 have h1:=val_take_succ (l:=d) (i:=m) (by omega);rw[List.take_of_length_le (by omega)] at h1;have h2:=Xi hd (m:=m) (by omega);rcases Nat.lt_or_ge d[m] 2147483648 with h |h
 ·exfalso
  have h3:4294967296^m*(d[m]+1)<=4294967296^m*2147483648:=Nat.mul_le_mul_left _ h;rw[Nat.mul_add,Nat.mul_one] at h3;generalize 4294967296^m=p at*;generalize p*d[m]=z at*;omega
 exact h
theorem div_scaled {y s m t:Nat}{cur:List Nat}(hlen:(digs y).length=m+1)(htop:t=(digs y)[m]'(by omega))(hs:s<=32)(hlo:2147483648<=t*2^s)(hhi:t*2^s<4294967296)
 (ok:Ok cur) (hl:cur.length=m+1+1) (hv:val cur=y*2^s):
 y*2^s<4294967296^(m+1)/\val (cur.take (m+1))=y*2^s/\Ok (cur.take (m+1))/\(cur.take (m+1)).length=m+1/\∀h:m<(cur.take (m+1)).length,2147483648<=(cur.take (m+1))[m]:=by
 have hy:=val_take_succ (l:=digs y) (i:=m) (by omega);rw[List.take_of_length_le (by omega),val_digs,<-htop] at hy;have hr:=Xi (ok_digs y) (m:=m) (by omega);have hlt:y*2^s<4294967296^(m+1):=Xda t (by rw[Nat.succ_mul,Nat.mul_comm t];omega) hs hhi;have hval:=Dia ok hl hv hlt;have hlen2:(cur.take (m+1)).length=m+1:=by rw[List.length_take];omega
 refine⟨hlt,hval,ok_take ok _,hlen2,λh=>top_bit (x:=0) (ok_take ok _) hlen2 ?_⟩;rw[hval];have h1:4294967296^m*t<=y:=by omega
 have h2:4294967296^m*t*2^s<=y*2^s:=Nat.mul_le_mul_right _ h1;have h3:2147483648*4294967296^m<=t*2^s*4294967296^m:=Nat.mul_le_mul_right _ hlo;have e:t*2^s*4294967296^m=4294967296^m*t*2^s:=by rw[Nat.mul_comm (t*2^s),Nat.mul_assoc]
 omega
end Nt
namespace Nt
open Go
theorem Xn:∀(f x:Nat),x<2^f->f<=64->x≠0->1<=Lib.bitLen x/\2^(Lib.bitLen x-1)<=x/\x<2^Lib.bitLen x
 | 0,x,h,_,h0=>by simp at h;omega
 |f+1,x,h,hf,h0=>by
  have h64:x<2^64:=Nat.lt_of_lt_of_le h (Nat.pow_le_pow_right (by omega) hf);rw[Lib.bitLen_half x h0 h64];rcases Nat.eq_zero_or_pos (x/2) with hz |hz
  ·have:x=1:=by omega
   subst this;decide
  obtain⟨a,b,c⟩:=Xn f (x/2) (by rw[Nat.pow_succ] at h;omega) (by omega) (by omega);generalize Lib.bitLen (x/2)=L at*;refine⟨by omega,?_,?_⟩
  ·rw[show 1+L-1=(L-1)+1 by omega,Nat.pow_succ];omega
  rw[Nat.add_comm,Nat.pow_succ];omega
theorem shift_of {t:Nat}(h0:t≠0)(ht:t<4294967296):Lib.bitLen t<=32/\1<=Lib.bitLen t/\2147483648<=t*2^(32-Lib.bitLen t)/\t*2^(32-Lib.bitLen t)<4294967296:=by
 obtain⟨a,b,c⟩:=Xn 32 t ht (by omega) h0;have hl:Lib.bitLen t<=32:=by
  rcases Nat.lt_or_ge 32 (Lib.bitLen t) with h |h
  ·exfalso
   have:2^32<=2^(Lib.bitLen t-1):=Nat.pow_le_pow_right (by omega) (by omega);omega
  exact h
 generalize Lib.bitLen t=L at*;refine⟨hl,a,?_,?_⟩
 ·have h1:=Nat.mul_le_mul_right (2^(32-L)) b
  rw[<-Nat.pow_add,show L-1+(32-L)=31 by omega] at h1;exact h1
 have h1:=Nat.mul_lt_mul_of_pos_right c (Nat.two_pow_pos (32-L));rw[<-Nat.pow_add,show L+(32-L)=32 by omega] at h1;exact h1
end Nt
namespace Go.Proofs.YtceplkpjnebnfaaGreatDoor
open Go.RowKit
theorem Oz (A A':Option Addr)(c c' B n:Nat)(a d:List Nat)(w:World)(hx:Lies w B A (U a))(hy:Lies w B A' (U d))(ha:Nt.Ok a)(hd:Nt.Ok d)(hla:a.length=n+1)(hld:d.length=n)(hn:2<=n)(hn2:n<=1000000)
 (h31:∀h:n-1<d.length,2147483648<=d[n-1]) (hlt:Nt.val a<4294967296*Nt.val d) (hc:n+1<=c) (hc':n<=c'):
 Calls Tryz.prog 216 #[.slice A (n+1) c,.slice A' n c'] w λe w'=>∃g:Nat,e= .returned (.int .u64 (g:Int))/\Hid (Nt.val a/Nt.val d<=g/\g<=Nt.val a/Nt.val d+1)/\g<4294967296/\∃k,w'=w.drewN k:=by
 have hE:∃p,Nt.Est (Nt.val a) (Nt.val d) p (d[n-1]'(by omega)) (d[n-2]'(by omega)) (a[n]'(by omega)) (a[n-1]'(by omega)) (a[n-2]'(by omega)):=by
  obtain⟨m,rfl⟩:∃m,n=m+2:=⟨n-2,by omega⟩;exact⟨_,Nt.est_of ha hd (by omega) (by omega) (h31 (by omega)) hlt⟩
 obtain⟨p,hE⟩:=hE;obtain⟨b1,o1,rfl,_,a0⟩:=hx.limb (k:=n) (by omega);obtain⟨b1',o1',e1,_,a1⟩:=hx.limb (k:=n-1) (by omega);obtain⟨b1'',o1'',e2,_,a2⟩:=hx.limb (k:=n-2) (by omega);obtain⟨b2,o2,rfl,_,d1⟩:=hy.limb (k:=n-1) (by omega);obtain⟨b2',o2',e3,_,d2⟩:=hy.limb (k:=n-2) (by omega);injection e1 with e1;injection e1 with e1 e1';subst e1 e1'
 injection e2 with e2;injection e2 with e2 e2';subst e2 e2'
 injection e3 with e3;injection e3 with e3 e3';subst e3 e3'
 have u0b:=Nt.ok_get ha (i:=n) (by omega);generalize d[n-1]'(by omega)=v1 at hE d1;generalize d[n-2]'(by omega)=v2 at hE d2;generalize a[n]'(by omega)=u0 at hE a0 u0b;generalize a[n-1]'(by omega)=u1 at hE a1;generalize a[n-2]'(by omega)=u2 at hE a2;have hv1:=hE.v1lo;have hv1':=hE.v1hi;have hv2:=hE.v2hi;have hu1:=hE.u1hi;have hu2:=hE.u2hi;have H0:=Qd (Nt.est_start hE);clear hx hy ha hd h31 hlt hla hld;have hj:=Et (r:=u0) u0b hu1;have hsh:IntKind.u64.wrap ((u0:Int)*4294967296)=(u0:Int)*4294967296:=IntWalk.u64_in _ (by omega);have hw1:IntKind.i64.wrap ((n:Int)-1)=(n:Int)-1:=IntWalk.i64_in _ (by omega);have hp1:(0:Int)<=(n:Int)-1:=by omega
 have hp1':(1:Int)<=(n:Int):=by omega
 have ht1:((n:Int)-1).toNat=n-1:=by omega
 have hdz:((v1:Int)==0)=false:=by simp;omega
 have hv1p:(1:Int)<=(v1:Int):=by omega
 generalize hH:u0*4294967296+u1=H at H0 hj;have hHb:H<18446744073709551616:=by omega
 clear hH hE;have hq:(H:Int)/(v1:Int)=((H/v1:Nat):Int):=(Int.natCast_ediv H v1).symm;have hr:(H:Int)%(v1:Int)=((H%v1:Nat):Int):=(Int.natCast_emod H v1).symm;have hrl:H%v1<v1:=Nat.mod_lt _ (by omega);have hql:=H0.out.le;generalize H/v1=q at*;generalize H%v1=r at*;go_enter Tryz.func216,Tryz.ntmps216
 go_wp2_with fail
 go_quiet (fail)
 clear hj hsh;go_wp2_with fail
 go_quiet (fail)
 clear a0 a1 hq hql u0b hHb;have HR:=Qd hr;clear hr;go_wp2_with fail
 go_loopw [7,8] (λgv tv wr=>∃g t m:Nat,wr=w.drewN m/\t<4294967296/\g<=8589934592/\gv= .int .u64 (g:Int)/\tv= .int .u64 (t:Int)/\Hid (Nt.EstAt (Nt.val a) (Nt.val d) p v1 v2 u0 u1 u2 g t)) (λgv _ _=>(intOf gv).toNat)
 case atStart=>exact⟨q,r,_,World.drewN_drewN _ _ _,by omega,H0.out.le,rfl,congrArg (Value.int .u64) HR.out,H0⟩
 case round=>
  clear H0 HR hrl;obtain⟨g,t,m,rfl,ht,hg,rfl,rfl,HA⟩:=hrel;have hw2:IntKind.i64.wrap ((n:Int)-2)=(n:Int)-2:=IntWalk.i64_in _ (by omega);have hp2:(0:Int)<=(n:Int)-2:=by omega
  have hp2':(2:Int)<=(n:Int):=by omega
  have ht2:((n:Int)-2).toNat=n-2:=by omega
  by_cases hbig:4294967296<=g
  ·have hne:((g:Int)/4294967296 !=0)=true:=by simp;omega
   obtain⟨hg1,hst⟩:=HA.out.step (.inl hbig);have ST:=Qd hst;clear hst;by_cases hb2:4294967296<=t+v1
   ·have hne2:(((t:Int)+(v1:Int))/4294967296 !=0)=true:=by simp;omega
    have BR:=Qd (ST.out.broke hb2);go_wp2_with fail
    go_quiet (fail)
    go_wp2_with fail
    go_ret;exact⟨g-1,Ra (by omega),Qd ⟨BR.out.1,BR.out.2.1⟩,BR.out.2.2,_,rfl⟩
   have hne2:(((t:Int)+(v1:Int))/4294967296 !=0)=false:=by simp;omega
   go_wp2_with fail
   go_quiet (fail)
   go_wp2_with fail
   exact⟨⟨g-1,t+v1,_,rfl,by omega,by omega,congrArg (Value.int .u64) (by omega),congrArg (Value.int .u64) (by omega),ST⟩,by simp[intOf];omega⟩
  have hne:((g:Int)/4294967296 !=0)=false:=by simp;omega
  have hmb:=Nt.mul_bound (x:=g) (y:=v2) (by omega) hv2;obtain⟨P,hP⟩:∃P:Nat,P=g*v2:=⟨_,rfl⟩;have hPi:IntKind.u64.wrap ((g:Int)*(v2:Int))=(P:Int):=by rw[<-Int.natCast_mul,<-hP,IntWalk.u64_in _ (by omega)]
  have hsh:IntKind.u64.wrap ((t:Int)*4294967296)=(t:Int)*4294967296:=IntWalk.u64_in _ (by omega);have hj:=Et (r:=t) ht hu2;have HP:=Qd hP;clear hmb hP;generalize hJ:t*4294967296+u2=J at hj;have HJ:=Qd hJ;clear hJ;by_cases htest:J<P
  ·have hdec:decide ((J:Int)<(P:Int))=true:=by simp;omega
   obtain⟨hg1,hst⟩:=HA.out.step (.inr (by rw[HJ.out,<-HP.out];exact htest));have ST:=Qd hst;clear hst;by_cases hb2:4294967296<=t+v1
   ·have hne2:(((t:Int)+(v1:Int))/4294967296 !=0)=true:=by simp;omega
    have BR:=Qd (ST.out.broke hb2);go_wp2_with fail
    go_quiet (fail)
    go_wp2_with fail
    go_ret;exact⟨g-1,Ra (by omega),Qd ⟨BR.out.1,BR.out.2.1⟩,BR.out.2.2,_,rfl⟩
   have hne2:(((t:Int)+(v1:Int))/4294967296 !=0)=false:=by simp;omega
   go_wp2_with fail
   go_quiet (fail)
   go_wp2_with fail
   exact⟨⟨g-1,t+v1,_,rfl,by omega,by omega,congrArg (Value.int .u64) (by omega),congrArg (Value.int .u64) (by omega),ST⟩,by simp[intOf];omega⟩
  have hdec:decide ((J:Int)<(P:Int))=false:=by simp;omega
  have DN:=Qd (HA.out.done (by omega) (by rw[HJ.out,<-HP.out];omega));go_wp2_with fail
  go_quiet (fail)
  go_wp2_with fail
  go_ret;exact⟨g,rfl,Qd ⟨DN.out.1,DN.out.2.1⟩,DN.out.2.2,_,World.drewN_drewN _ _ _⟩
end Go.Proofs.YtceplkpjnebnfaaGreatDoor
