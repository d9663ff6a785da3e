/- A part of TopRoom's proof. No condition. -/
import Derived.Test.YtglilpjokhgidaaGreatDoorA
import Derived.Lib.ItoaNum
import Derived.Test.YtglilpjokhgidaaGreatDoorProg
set_option maxRecDepth 100000
set_option maxHeartbeats 4000000
set_option linter.unusedVariables false
set_option linter.unusedSimpArgs false
namespace Go.Proofs.YtglilpjokhgidaaGreatDoor
open Go.Proofs.Tryz (prog)
open Go.IntKind
namespace T
open Go V
variable {a b c d e f g:Nat} {u v w:Value} {i j k:Int} {t:TypeId} {p:List Value} {q:Bool} {n:IntKind} {x y z:TV} {r s:List TO} {o:List TV}
section
variable {X:Nat->Prop} {D E:aH} {M J:Nat->Prop} {H h:AH} {ω ω':Nat->Option Loc} {P:aB} {fl:Nat} {τ τ':TF} {l s l' s':ae} {V:aQ}
def bV (X:Nat->Prop) (D:aH) (ω:Nat->Option Loc) (fl:Nat) (H:AH) (l s:ae) (V:aQ) (d:di) (q:Bool) (z:Option (aq×AH)) (r:TS):Prop:=
 ∃v h E ω',z=some (v,h)/\St X E ω' fl h (dT r.2.1 d r.1) r.2.2.1 r.2.2.2 (bZ V d v)/\Xt X fl D ω H l s E ω' h r.2.2.1 r.2.2.2/\
  (q=true->∀b c sz a,l[b]? =some (.row c sz)->D false b 0=some a->h[a]? =H[a]?)
theorem bV.val (h:St X D ω fl H τ l s V) {d:di} (a:∀k,d=some k->k<V.length) {v:aq} {z:Option (aq×AH)} (e:z=some (v,H)) (c:TR D (Mu X D l s) H x v) (b:NO x v):bV X D ω fl H l s V d q z (x,τ,l,s):=
 ⟨v,H,D,ω,e,h.put a c b,Xt.refl,λ_ _ _ _ _ _ _=>rfl⟩
theorem jM {o:Oper} (h:kN o) {x:Operand} (a:x∈o.op.operands):pF x:=by
 simp only [kN,zT] at h
 simp_all
theorem bV.mv (h:St X D ω fl H τ l s V) {d:di} (a:∀k,d=some k->k<V.length) {q:Bool} {x:Operand} (b:pF x) {z:Option (aq×AH)} (c:z=some (ev V x,H)):bV X D ω fl H l s V d q z (aS τ x,dN τ x,l,s):=by
 cases x with
 | tmp t=>obtain ⟨ω',f,g⟩:=h.move t d a;exact ⟨_,H,D,ω',c,f,g,λ_ _ _ _ _ _ _=>rfl⟩
 | _=>exact bV.val h a c (av h b) (ri b (λt e=>by cases e))
theorem St.mI (h:St X D ω fl H τ l s V) (ext:AH):St X D ω fl (H++ext) τ l s V/\Xt X fl D ω H l s D ω (H++ext) l s:=by have c:∀v,v<H.length->(H++ext)[v]? =H[v]? :=λv b=>zD b;have d:Le D (Mu X D l s) H D (Mu X D l s) (H++ext):=⟨λ_ _ _ _ h=>h,λv C sz g b e=>⟨e,g,(c v (ab b)).trans b⟩⟩;refine ⟨⟨λt=>(h.tm t).mono d,λt i j w a n x y=>?_,λr f o E=>?_,λv F b=>?_,λr f k v b=>?_,h.mJ,λv b=>?_,h.xo⟩,⟨λ_ _ _ _ h=>h,Z,λv b A=>⟨c v b,A⟩,λv C sz g b e=>(d.aM v C sz g b e).2,λv b=>.inl b,λ_ _=>rfl⟩⟩;obtain ⟨q,J⟩:=h.ow t i j w a n x y;exact ⟨q,J.aM (c _ (h.lt _ _ q))⟩;refine (h.ob r f o E).other d (λk v p z=>⟨c v (h.fA _ _ _ _ z).2,rfl⟩) (λ_ _ _ _ _ _ p=>p) (λ_ a j m _=>⟨m,c _ (h.lt _ _ m)⟩);have:=h.lt v F b;simp;omega;have:=h.fA r f k v b;simp;omega;have:=h.xl v b;simp;omega
theorem St.Pq (h:St X D ω fl H τ l s V) (c:Mu X D l s a):a<H.length:=by rcases c with d|⟨i,e,g,f,_,_,b⟩;exact h.xl a d;exact (h.fA _ _ _ _ b).2
theorem qK (h:zc P t=some o):∃i a,P.info? t=some i/\i.zero=some a/\a.cells.toList.all ak/\a.cells.size=i.size/\o=a.cells.toList.map c1:=by
 unfold zc at h;split at h;rename_i i b;split at h;rename_i a c;split at h
 simp_all
 cases h;cases h;cases h
theorem lS (H:AH) (a:AO):(H++[a])[H.length]? =some a:=Z
theorem Ie (h:zc P t=some o) {i:TypeInfo} (a:P.info? t=some i):i.size<1000000:=by unfold zc at h;rw [a] at h;simp only at h;split at h;split at h;omega;cases h;cases h
theorem bV.row (h:St X D ω fl H τ l s V) {d:di} (v:∀k,d=some k->k<V.length) {b:ao} {sz:Nat} {z:Option (aq×AH)} (r:Bool) (E:z=some (.pointer (some ⟨H.length,0,none⟩),H++[.row p sz (some 0)]))
  (A:cJ b) (C:gS D (Mu X D l s) H b p) (y:wX b p):bV X D ω fl H l s V d q z (.p r (ob l s r).length 0,τ,add l s r (.row b sz)):=by
 obtain ⟨g,m⟩:=h.add r (o:=.row b sz) rfl (.row p sz (some 0)) (λx=>x) h.tm (λt i j f a n e c=>by
   obtain ⟨L,M⟩:=h.ow t i j f a n e c
   simp_all) (λ_ _=>rfl) (λ_ _ _ _=>rfl) λJ w=>
  ⟨A,H.length,p,aH.add_same _ _ _ _ _,lS _ _,C.mono w,zP rfl,λ_ j f a n e c=>(y j f a n e c).elim⟩
 refine ⟨_,_,_,_,E,g.put v (.p (aH.add_same _ _ _ _ _)) Hb,m,λ_ K F N P e c=>?_⟩;have:=(h.fA _ _ _ _ c).2
 grind
theorem bV.alloc (h:St X D ω fl H τ l s V) {d:di} (e:∀k,d=some k->k<V.length) (f:zc P t=some o) (r:Bool):bV X D ω fl H l s V d q (mQ P t H) (.p r (ob l s r).length 0,τ,add l s r (.row o (bc P t))):=by obtain ⟨i,j,b,c,a,g,rfl⟩:=qK f;refine bV.row h e r ?_ (DS a) (.Jy a) (.Jy a);unfold mQ;simp only [b,c];rw [zP a];rfl
theorem wX.AV:wX (o.map dX) p:=λj a _ _ h _=>vI o j a h
theorem DW (x:TV):cH (T.jz x)=cH x:=by unfold T.jz;split <;> rfl
theorem DU (h:cJ o):cJ (o.map T.jz):=kf λx b=>by obtain ⟨y,c,rfl⟩:=xW.1 b;obtain ⟨j,a,rfl⟩:=yA c;rw [DW];exact cO h (zA a)
theorem gS.pR {sz:Nat} (h:gS D M H o p) (a:T.pR sz o):Td sz p:=by
 unfold T.pR at a;unfold Td;cases k:Nat.ble sz 999999 with
 | true=>rfl
 | false=>
  rw [k] at a;simp at a ⊢;cases q:gw sz with
  | none=>rfl
  | some r=>
   obtain ⟨s,b,N⟩:=r;rw [q] at a;simp at a ⊢;obtain ⟨n,a⟩:=a;refine ⟨h.1▸n,?_⟩;split;rename_i i m c e;exfalso;have w:=ab e;have g:o[b+1]? =some (o[b+1]'(Zo h.1)):=zA _;have d:=h.2 (b+1) _ _ g e;rw [g] at a;simp only at a;generalize o[b+1]'(by grind)=y at a d;generalize f:Value.slice (some i) (m+1) c=v at d;cases d with
   | u=>cases a
   | v t l=>subst f;cases l
   | @sl x j _ _ _ _ _ _ _ _ _ _ _=>cases j with
    | nil=>simp_all
    | cons _ _=>cases a
   | m _=>cases a
   | _=>cases f
   rfl
theorem bV.a0X (h:St X D ω fl H τ l s V) {d:di} (c:∀k,d=some k->k<V.length) (f:TR D (Mu X D l s) H x u) (a:aW x) (e:T.pR (bc P t) (ce x)):bV X D ω fl H l s V d q (py P t u H) (.p false l.length 0,τ,l++[.row ((ce x).map dX) (bc P t)],s):=by obtain ⟨c1,b⟩:=f.ce (by simpa [aW] using a);refine bV.row (r:=false) h c ?_ (sZ (by simpa [aW] using a)) c1.AV .AV;unfold py;rw [zP ⟨b,c1.pR e⟩];rfl
theorem bV.a0V (h:St X D ω fl H τ l s V) {d:di} (c:∀k,d=some k->k<V.length) (f:TR D (Mu X D l s) H x u) (a:aW x) (e:T.pR (bc P t) (ce x)):bV X D ω fl H l s V d q (py P t u H) (.p true s.length 0,τ,l,s++[.row ((ce x).map jz) (bc P t)]):=by obtain ⟨c1,b⟩:=f.ce (by simpa [aW] using a);refine bV.row (r:=true) h c ?_ (DU (by simpa [aW] using a)) c1.ES (.ES c1);unfold py;rw [zP ⟨b,c1.pR e⟩];rfl
theorem bV.a0W (h:St X D ω fl H τ l s V) {d:di} (w:∀k,d=some k->k<V.length) {x:Operand} (z:pF x) (g:aW (aS τ x)) (L:T.pR (bc P t) (ce (aS τ x))):bV X D ω fl H l s V d q (py P t (ev V x) H) (.p false l.length 0,dN τ x,l++[.row (ce (aS τ x)) (bc P t)],s):=by
 have p:=av h z;obtain ⟨c1,E⟩:=p.ce (by simpa [aW] using g);have A:py P t (ev V x) H=some (.pointer (some ⟨H.length,0,none⟩),H++[.row (ev V x).cells.toList (bc P t) (some 0)]):=by unfold py;rw [zP ⟨E,c1.pR L⟩];rfl
 cases x with
 | tmp c=>
  have y:aW (τ c):=g;obtain ⟨F,K⟩:=h.add (τ':=dN τ (.tmp c)) false (o:=.row (ce (τ c)) (bc P t)) rfl (.row (ev V (.tmp c)).cells.toList (bc P t) (some 0)) (toCell (some c) false l.length 0) (h.Ht c).tm (λC i j f a n b e=>by
    rcases aL τ c C (bw (τ c)) with ⟨rfl,t⟩|⟨R,t⟩;simp only [dN] at b;rw [t] at b;exact ((NO.bw _ _) i j f a n b e).elim;simp only [dN] at b;rw [t] at b;obtain ⟨m,v⟩:=h.ow C i j f a n b e;rw [m];exact ⟨by simp [toCell,Ne.symm R],v⟩) (λ_ _=>rfl) (λ_ _ _ _=>rfl) λJ M=>
   ⟨by simpa [aW] using y,H.length,_,aH.add_same _ _ _ _ _,lS _ _,c1.mono M,zP rfl,λ_ j f a n b e=>by
    obtain ⟨m,v⟩:=h.ow c 0 j f a n (by rw [rk y];exact b) (by have:=jU p g j;exact this.trans e)
    have N:=h.lt _ _ m;refine ⟨?_,v.aM (zD N)⟩;show (if _ then _ else _)=_;rw [zO O,m];simp [toCell,ob]⟩
  refine ⟨_,_,_,_,A,F.put w (.p (aH.add_same _ _ _ _ _)) Hb,K,λ_ id b1 b2 b6 b e=>?_⟩;have:=(h.fA _ _ _ _ e).2
  grind
 | _=>refine bV.row (r:=false) h w A (by simpa [aW] using g) c1 λj f a n b e=>?_;refine ri (V:=V) z (λc t=>by cases t) 0 j f a n (by rw [rk g];exact b) ?_;exact (jU p g j).trans e
theorem bV.db (h:St X D ω fl H τ l s V) {d:di} (y:∀k,d=some k->k<V.length) {q:Bool} {an:Nat} {es:cD} {z:Option (aq×AH)} (A:z=some (.slice (some ⟨H.length,0,none⟩) es.length 1,H++[.row p a (some 0)]))
  (g:cR an a es) (b:cB D (Mu X D l s) H es a p) (L:an=0->es≠[]):bV X D ω fl H l s V d q z ((T.db an a es l s).1,τ,(T.db an a es l s).2):=by
 have w:∀r:Bool,bV X D ω fl H l s V d q z (.m r (ob l s r).length 0 0 es.length a,τ,add l s r (.aY 0 a es)):=by
  intro r;obtain ⟨m,t⟩:=h.add r (o:=.aY 0 a es) rfl (.row p a (some 0)) (λx=>x) h.tm (λb1 i j es C n f e=>by
    obtain ⟨q1,q2⟩:=h.ow b1 i j es C n f e
    simp_all) (λ_ _=>rfl) (λ_ _ _ _=>rfl) λJ K=>
   ⟨H.length,p,aH.add_same _ _ _ _ _,lS _ _,b.len,⟨λc b=>⟨(ch g b).1,(ch g b).2.1⟩,by rw [b.len,yZ];omega,λi j c x v f e e3=>(b.rel i j c x v f e (by simp_all)).mono K⟩,zP rfl,λP hk=>by
    unfold aH.add;rw [zO O];cases F:D r (ob l s r).length P with
    | none=>rfl
    | some v=>exact absurd (h.fA _ _ _ _ F).1 (wC _)⟩
  refine ⟨_,_,_,_,A,m.put y ?_ Hc,t,λ_ N E R b2 f e=>?_⟩;have:=TR.m (M:=Mu X (D.add r (ob l s r).length 0 H.length) (add l s r (.aY 0 a es)).1 (add l s r (.aY 0 a es)).2) (H:=H++[.row p a (some 0)]) (off:=0) (n:=es.length) (sz:=a) (aH.add_same D r (ob l s r).length 0 H.length)
  simp_all
  have:=(h.fA _ _ _ _ e).2
  grind
 unfold T.db;split;obtain ⟨ω',m,t⟩:=h.fresh (zY _) d y b.len (L rfl) (λc b=>⟨(ch g b).1,(ch g b).2.2 rfl⟩) b.rel;refine ⟨_,_,_,_,A,m,t,λ_ N E R b2 f e=>?_⟩;have:=(h.fA _ _ _ _ e).2
 grind
 exact w false;exact w true
theorem cB.mC (h:u.cells.toList.all ak) (r:0<u.cells.size) (o:p.length=a*u.cells.size) (l:∀k,k<p.length->p[k]? =u.cells.toList[k%u.cells.size]?):cB D M H (T.mC a (u.cells.toList.map c1)) u.cells.size p:=by have f:=h;rw [zT] at f;refine ⟨by simp [T.mC,o],?_,λi j c x v b d g=>?_⟩;rw [zT];intro v q;obtain ⟨k,n,rfl⟩:=yA q;have e:=l k n;rw [zA n] at e;exact fT (f _ (zI e.symm));simp only [T.mC,List.getElem?_replicate] at b;split at b;cases b;have m:=ab d;simp at m;have e:=l _ (ab g);rw [g,Nat.mul_comm i,Nat.mul_add_mod,Nat.mod_eq_of_lt m] at e;rw [zJ,<-e] at d;cases d;exact .c1 (f v (zI e.symm));cases b
theorem tE (h:fits a b):a*b<=140737488355328/\a<=4611686018427387904:=by simpa [fits] using h
theorem St.Jt (h:St X D ω fl H τ l s V) (x:Operand):St X D ω fl H (dN τ x) l s V:=by
 cases x with
 | tmp t=>exact h.Ht t
 | _=>exact h
theorem yr {d e:cD} (f:cR a b d) (g:cR a b e):cR a b (d++e):=by
 induction d with
 | nil=>exact g
 | cons c d h=>
  simp only [cR,zN,List.cons_append] at f ⊢
  simp_all
theorem cB.app {b g:cD} {n:aQ} (h:cB D M H b a p) (k:cB D M H g a n) (q:∀c∈b++g,c.length=a):cB D M H (b++g) a (p++n):=by
 refine ⟨by simp [h.len,k.len,Nat.add_mul],?_,λi j c x v e l m=>?_⟩;simp [h.oe,k.oe];have o:=ab l;rw [q c (zI e)] at o;rcases zZ i b.length with f|f;rw [zD f] at e;rw [zD] at m;exact h.rel i j c x v e l m;rw [h.len];have:(i+1)*a<=b.length*a:=zV _ f
 grind
 rw [zH f] at e;have r:b.length*a<=i*a:=zV _ f;rw [zH (by rw [h.len];omega),h.len] at m;apply k.rel (i-b.length) j c x v e l;rw [Nat.sub_mul]
 grind
theorem cB.take {d:cD} (h:cB D M H d a p) (m:∀c∈d,c.length=a) (g:b<=d.length):cB D M H (d.take b) a (p.take (b*a)):=by
 have l:b*a<=d.length*a:=zV _ g;refine ⟨by rw [wI,wI,h.len,Nat.min_eq_left g,Nat.min_eq_left l],?_,λi j c x v e k f=>?_⟩;have:=h.oe
 grind
 rw [zS] at e f;split at e;split at f;exact h.rel i j c x v e k f;cases f;cases e
theorem JE.cells {a:cD} {sz:Nat} (e:0<sz) (h:JE D M H a sz p 0) (g:p.length=a.length*sz):cB D M H a sz p:=by
 refine ⟨g,?_,λi j c x v b d o=>h.2.2 i j c x v b d (by simp_all)⟩;rw [zT];intro v k;obtain ⟨n,r,rfl⟩:=yA k;have f:n/sz<a.length:=by rw [Nat.div_lt_iff_lt_mul e];omega
 have q:n%sz<sz:=Nat.mod_lt _ e;have b:=zA f;obtain ⟨s,l⟩:=h.1 _ (zI b);have d:=zA (show n%sz<a[n/sz].length by omega);have m:n/sz*sz+n%sz=n:=by rw [Nat.mul_comm];exact Nat.div_add_mod _ _
 exact (h.2.2 _ _ _ _ p[n] b d (by simp_all)).zq (iO (fi l d))
theorem bV.app (h:St X D ω fl H τ l s V) {d:di} (hd:∀c9,d=some c9->c9<V.length) {t1 ty el:aP} {d1:TypeDesc} {b:TypeInfo} (hu:P.underlying t=some (.slice el)) (d6:P.underlying t1=some d1) (d5:vP d1) (R:P.info? el=some b) (hz:b.zero=some u) (d7:u.cells.size=b.size) (d4:b.size<1000000)
  {x y:Operand} (hx:pF x) (hy:pF y) {d8:TV×ae×ae} (f:cq (qo t) b.size b.bytes a fl (aS τ x) (aS τ y) l s=some d8):
  bV X D ω fl H l s V d true (cC P t t1 (ev V x) (ev V y) H) (d8.1,dN τ x,d8.2):=by
 have A:=av h hx;have i3:=av h hy;unfold cq at f;split at f;cases f;rename_i g h6;have go:∀(e6:Nat),cR e6 b.size g->0<b.size->∃q,cB D (Mu X D l s) H g b.size q/\
   (∀i,(i= .slice none 0 0\/∃k r,i= .slice (some ⟨k,r,none⟩) 0 0)->cC P t t1 i (ev V y) H=if g.length=0 then some (i,H) else if g.length*b.bytes<=140737488355328/\g.length<=4611686018427387904 then some (.slice (some ⟨H.length,0,none⟩) g.length 1,H++[.row q b.size (some 0)]) else none)/\
   (∀k n L sz F,H[k]? =some (.row L sz (some F))->cC P t t1 (.slice (some ⟨k,0,none⟩) n 1) (ev V y) H=if sz=b.size/\n*sz<=L.length/\F<=n*sz/\(n+g.length)*b.bytes<=140737488355328/\n+g.length<=4611686018427387904 then
      some (.slice (some ⟨H.length,0,none⟩) (n+g.length) 1,H.set k (sU (qo t) (L.take (n*sz)) sz)++[.row (L.take (n*sz)++q) sz (some (bif qo t then F else n*sz))]) else none):=by
  intro e6 h1 h2;obtain ⟨q1,q,q2,w⟩:=kH h.ob h6 h2 h1 i3;refine ⟨q,w,λi hv=>?_,λk n L sz F p=>?_⟩;rcases hv with rfl|⟨k,r,rfl⟩;unfold cC;simp only [hu,d6,q1,R,d5,hz,q2];rw [zP ⟨d7,w.oe,w.len,d4⟩];unfold cC;simp only [hu,d6,q1,R,d5,hz,q2];rw [zP ⟨d7,w.oe,w.len,d4⟩];unfold cC;simp only [hu,d6,q1,R,d5,hz,q2,p];rw [zP ⟨d7,w.oe,w.len,d4⟩]
 generalize j:aS τ x=xt at f A;generalize b2:ev V x=i at A;split at f;rename_i o;split at f;rename_i e;obtain ⟨c1,z,v,J,K⟩:=e;obtain ⟨q,g1,g2,g3⟩:=go a z K;have hf:=tE J;have hb:=h.Jt x;by_cases b1:o=[];subst b1;simp at f hf;have hv:(i= .slice none 0 0\/∃k r,i= .slice (some ⟨k,r,none⟩) 0 0):=by
  generalize R:TV.sl true []=c7 at A;cases A with
  | sn=>grind
  | s0=>grind
  | sl _ _ _ _ g9 _=>grind
  | _=>cases R
 have h7:NO (.sl true []) i:=by rcases hv with rfl|⟨k,r,rfl⟩;exact lO;exact lO
 have d3:cC P t t1 i (ev V y) H=if g.length=0 then some (i,H) else some (.slice (some ⟨H.length,0,none⟩) g.length 1,H++[.row q b.size (some 0)]):=by rw [g2 i hv,zP hf]
 split at f;rename_i hn;subst hn;cases f;exact bV.val hb hd d3 A h7;rename_i hn;cases f;have g8:=λc7=>hn (zK c7);rw [zO g8] at d3;exact bV.db hb hd d3 z g1 (λ_=>hn);have g5:=c1.resolve_left b1;obtain ⟨hk,f9⟩:=g5;subst f9;rw [zO (by simp [b1])] at f;cases f;cases x with
 | tmp d2=>
  have j:τ d2= .sl true o:=j;have b2:V.getD d2 undef=i:=b2;have f4:=h.tm d2;rw [j,b2] at f4;cases f4 with
  | sn=>grind
  | s0=>grind
  | @sl _ _ b6 r sz C j5 p g7 j3 g4 g9 hr=>
   obtain ⟨o1,o2⟩:=h.ow d2 0 0 o ⟨b6,r,none⟩ o.length (by rw [j];rfl) (by rw [b2];rfl);obtain ⟨p1,C',d9,F,p2,p3,p4⟩:=o2;have p1:=p1;subst p1;rw [p] at p2;cases p2;have h8:sz=b.size:=by obtain ⟨c,e⟩:=List.exists_mem_of_ne_nil _ b1;have:=(ch v e).1;have:=(g4 c e).1;omega
   subst h8;have h9:C.take (o.length*b.size)=C:=by rw [<-p3];exact wH
   obtain ⟨f1,f2⟩:=h.Bm j b2 p;have f8:cB D (Mu X D l s) H o b.size C:=.mk' K v p3 λi4 i6 c7 x c f6 f7 c9=>hr i4 i6 c7 x c f6 f7 (by grind);have N:∀c∈o++g,c.length=b.size:=λc e=>(ch (yr v z) e).1;have c8:=(f8.app g1 N).mono f2.le;obtain ⟨ω',k1,k2⟩:=f1.fresh (k:=C.length) Z d hd c8.len (by simp [b1]) (λc e=>⟨N c e,(ch (yr v z) e).2.2 rfl⟩) c8.rel;rw [xH] at k1;refine ⟨_,_,_,_,?_,k1,f2.trans k2,λ_ k f3 d9 i9 e1 M=>?_⟩;rw [g3 b6 o.length C b.size F p,zP ⟨rfl,O,O,hf⟩,hk,h9];simp only [sU,cond_false,xB];rw [<-p3];have i1:=(h.fA _ _ _ _ M).2;rw [zD (by grind),zE];rintro rfl;exact g7 (Mu.of e1 rfl M)
 | const f5=>
  exfalso;have:aS τ (.const f5)=T.iU f5:=rfl;rw [this] at j;unfold T.iU at j;split at j;cases j;unfold T.c1 at j;split at j
  grind
  cases j
 | global j2=>cases hx
 | func j1=>cases j
 cases f;rename_i i7 k j6 r n sz;split at f;rename_i c9 j7 o p;split at f;rename_i e;obtain ⟨rfl,rfl,rfl,rfl,c1,z,v,J,K,c6⟩:=e;cases f;have hb:=h.Jt x;obtain ⟨q,g1,g2,g3⟩:=go 1 J K;obtain ⟨b6,C,h1,h2,hl,h3,h4,h5⟩:=h.ob i7 k _ p;have i2:i= .slice (some ⟨b6,0,none⟩) n 1:=by
  cases A with
  | m hi=>grind
 have hC:=h3.cells K hl;have j4:n*b.size<=o.length*b.size:=zV _ c1;have N:∀c∈o.take n++g,c.length=b.size/\mX c:=by intro c e;rcases xC.1 e with e|e;exact h3.1 c (yM e);exact ⟨(ch J e).1,(ch J e).2.1⟩
 have c8:=(hC.take (λc e=>(h3.1 c e).1) c1).app g1 λc e=>(N c e).1;obtain ⟨E,ω',k1,k2⟩:=hb.bump p v h1 c8 N d hd;have g6:(o.take n++g).length=n+g.length:=W;rw [g6] at k1;refine ⟨_,_,E,ω',?_,k1,k2,λ_ i5 f3 d9 i9 e1 M=>?_⟩;rw [i2,g3 b6 n C b.size 0 h2,zP ⟨rfl,O,zY _,tE c6⟩,z];rfl;have i1:=(h.fA _ _ _ _ M).2;rw [zD (by grind),zE];rintro rfl;refine h.ne p e1 rfl rfl h1 M v ?_ rfl;rintro ⟨rfl,rfl⟩;have:(ob l s false)[i5]? =some (.row f3 d9):=e1
 grind
 cases f;cases f;cases f
theorem tW (h:cY a b u H=some p) (j:wo u=some b) (k:c<=b) (t:∀d,u≠ .string d):cY a c u H=some (p.take (c*a)):=by
 cases u with
 | slice g n m=>
  cases j;cases g with
  | none=>have h:=h;cases h;simp [cY]
  | some A=>
   have ⟨l,w,sp⟩:=A;cases sp with
   | some _=>cases h
   | none=>
    simp only [cY] at h ⊢;by_cases e:c=0;subst e;simp;rw [zO e];rw [zO O] at h;cases f:H[l]? with
    | none=>simp_all
    | some o=>
     cases o with
     | row C sz v=>
      simp only [f] at h ⊢;split at h;rename_i i;have ⟨q,s⟩:=i;cases h;have r:c*a<=b*a:=zV _ k
      grind
      cases h
     | _=>simp only [f] at h;cases h
 | string d=>simp_all
 | _=>cases h
theorem bV.copy (h:St X D ω fl H τ l s V) {b1:di} (hd:∀k,b1=some k->k<V.length) {el:aP} {a:TypeInfo} (hu:P.underlying t=some (.slice el)) (he:P.info? el=some a)
  {N:aq} (hx:TR D (Mu X D l s) H x w) (hy:TR D (Mu X D l s) H y N) {p:TV×ae×ae} (d:lC a.size fl x y l s=some p):bV X D ω fl H l s V b1 false (pw P t w N H) (p.1,τ,p.2):=by
 unfold lC at d;split at d;cases d;rename_i o b6;split at d;rename_i d2;obtain ⟨F,R,c5⟩:=d2;obtain ⟨M,cs,q2,q3⟩:=kH h.ob b6 R F hy;have d8:∀b,N≠ .string b:=by
  rintro b rfl;cases hy with
  | v _ _=>cases c5
  | u=>cases b6
 split at d;rename_i d9 id f4 e n sz;cases hx with
 | @m _ _ _ _ _ _ c7 A=>
  have E:min o.length n<=o.length:=Nat.min_le_left _ _;have d5:min o.length n<=n:=Nat.min_le_right _ _;generalize d6:min o.length n=m at d E d5;have hf:=tW q2 M E d8;split at d;rename_i h0;cases d;refine bV.val h hd ?_ (.v rfl rfl) kO;unfold pw
  grind
  rename_i h0;split at d;rename_i k f6 q L;split at d;rename_i f;obtain ⟨rfl,rfl,rfl,c1,c2⟩:=f;cases d;obtain ⟨f5,c8,h1,h2,hl,z,h4,h5⟩:=h.ob d9 id _ L;rw [A] at h1;cases h1;have f2:m*a.size<=o.length*a.size:=zV _ E;have d7:(e+m)*a.size<=q.length*a.size:=zV _ O;rw [Nat.add_mul] at d7;have d4:(cs.take (m*a.size)).length=m*a.size:=by rw [wI,q3.len];omega
  have J:∀c∈o,c.length=a.size:=λc f=>(ch F f).1;have c6:=q3.take J E;have f1:(q.take e++(o.take m++q.drop (e+m))).length=q.length:=by simp;omega
  obtain ⟨w1,w2⟩:=h.write (o':=.aY k a.size (q.take e++(o.take m++q.drop (e+m)))) L c2 rfl rfl A (.row (cr c8 (e*a.size) (cs.take (m*a.size))) a.size (some 0)) (λx=>x) h.tm (λe6 i j q c9 n g r=>by
   obtain ⟨M,q2⟩:=h.ow e6 i j q c9 n g r
   simp_all) (λ_ _=>rfl) (λ_ _ _ _=>rfl) (by
   have hm:Mu X D l s c7:=Mu.of L rfl A;refine ⟨c7,_,A,zF (ab h2),by simp_all,JE.mono (Le.write hm _) ⟨λc f=>?_,by simp_all,λi j c x v g r e3=>?_⟩,?_,h5⟩;rcases xC.1 f with f|f;exact z.1 c (yM f);rcases xC.1 f with f|f;exact ⟨J c (yM f),(ch F (yM f)).2.1⟩;exact z.1 c (wD f);rw [yZ,dV _ _ _ _ O,d4] at e3;rcases zZ i e with C|C;rw [zD W,zS,zP C] at g;have K:=ab r;rw [(z.1 c (zI g)).1] at K;have:(i+1)*a.size<=e*a.size:=zV _ C;rw [wL] at this;rw [zO O] at e3;exact z.2.2 i j c x v g r (by simp_all);rw [zH W,wI,Nat.min_eq_left O] at g;have f3:e*a.size<=i*a.size:=zV _ C;rcases zZ (i-e) m with b2|b2;rw [zD W] at g;have K:=ab r;have d3:=zI g;rw [J c (yM d3)] at K;have:(i-e+1)*a.size<=m*a.size:=zV _ b2;rw [wL,Nat.sub_mul] at this;rw [zP O] at e3;apply c6.rel (i-e) j c x v g r
   grind
   rw [zH W,wI,Nat.min_eq_left O,yX,show e+m+(i-e-m)=i by omega] at g;have:(e+m)*a.size<=i*a.size:=zV _ O;rw [Nat.add_mul] at this;rw [zO O] at e3;exact z.2.2 i j c x v g r (by simp_all)
   simp_all)
  refine ⟨.int .i64 (m:Nat),_,D,_,?_,w1.put hd (.v rfl rfl) kO,w2,λd1=>by cases d1⟩;unfold pw;simp only [hu,M,he,Option.elim];rw [show (Nat.min o.length n)=m from d6,hf];simp only [h0,if_false,h2];rw [zP ⟨O,c6.oe,R,zY _⟩];cases d;cases d
 cases d;cases d
theorem Hy (h:(bif Nat.beq a 0 then pK o else mX o)=true) (d:o.length=b):cR a b (mC c o):=by
 induction c with
 | zero=>rfl
 | succ c f=>
  have e:Nat.beq o.length b:=by rw [d];exact Nat.beq_refl b
  show (Nat.beq o.length b&&(bif Nat.beq a 0 then pK o else mX o)&&cR a b (mC c o))=true
  simp_all
theorem bV.make (h:St X D ω fl H τ l s V) {d:di} (L:∀k,d=some k->k<V.length) {q:Bool} {j:aP} {e:TypeInfo} (hu:P.underlying t=some (.slice j)) (y:zc P j=some o) (r:P.info? j=some e) {k2:IntKind}
  {p:TV×ae×ae} (g:mT a e.size e.bytes o (.v (.int n i)) l s=some p):bV X D ω fl H l s V d q (iz P t (.int n i) (.int k2 i) H) (p.1,τ,p.2):=by
 obtain ⟨ei,b,v,J,w,m,rfl⟩:=qK y;rw [r] at v;cases v;simp only [mT] at g;split at g;rename_i K;obtain ⟨c1,z,A,C,E,F⟩:=K;cases g;have x:(mC i.toNat (b.cells.toList.map T.c1)).length=i.toNat:=by simp [mC]
 have b2:=m;have M:(List.replicate i.toNat b.cells.toList).flatten.length=i.toNat*b.cells.size:=Z;have c:e.size=0\/cB D (Mu X D l s) H (mC i.toNat (b.cells.toList.map T.c1)) b.cells.size (List.replicate i.toNat b.cells.toList).flatten:=by
  rcases Nat.eq_zero_or_pos e.size with f|f;omega;refine .inr (cB.mC w O M λk N=>?_);have:=oP b.cells.toList i.toNat k _ (zA N)
  simp_all
 have c:cB D (Mu X D l s) H (mC i.toNat (b.cells.toList.map T.c1)) e.size (List.replicate i.toNat b.cells.toList).flatten:=by
  rw [<-m];rcases c with f|c;refine ⟨by simp_all,?_,λi' b6 b1 c8 c7 g1 g2 g3=>?_⟩
  simp_all
  simp_all
  exact c
 have R:a=0->mC i.toNat (b.cells.toList.map T.c1)≠[]:=by intro f e;have:=yH List.length e;rw [x] at this;have:=C f;simp at*;omega
 have hs:=bV.db h L (q:=q) (z:=iz P t (.int n i) (.int k2 i) H) (by unfold iz;simp only [hu,r,J];rw [zP (by refine ⟨w,m,?_,c1,z,A,Ie y r⟩;simp_all),x]) (Hy E F) c R
 exact hs;cases g
theorem Fl.of {a:Operand->TV} {b:Operand->aq} {ps:Array (Nat×Operand)} (h:∀x∈ps.toList.map (·.2),TR D M H (a x) (b x)):Fl D M H (ps.toList.map λp=>(p.1,a p.2)) (ps.map λ(i,x)=>(i,b x)).toList:=by
 refine ⟨by simp_all,Z,λj x c e d=>?_⟩
 grind
theorem bV.Me (h:St X D ω fl H τ l s V) {d:di} (E:∀k,d=some k->k<V.length) {z:aP} (hu:P.underlying t=some (.slice z)) (L:zc P z=some o) {ps:List (Nat×TV)} {j:List (Nat×aq)} {g:cD}
  (hn:b*o.length<=16777216) (p:0<o.length) (c2:bO (ps.map (·.2))=true) (c3:Fl D (Mu X D l s) H ps j) (F:iY o.length (mC b o) ps=some g) (K:cR a o.length g) {r:TS}
  (f:(bif Nat.beq b 0 then some ((.sl true [],τ,l,s):TS) else some ((T.db a o.length g l s).1,τ,(T.db a o.length g l s).2))=some r):bV X D ω fl H l s V d q (fN P t b j H) r:=by
 obtain ⟨e,c,A,R,C,i,rfl⟩:=qK L;have c4:(c.cells.toList.map T.c1).length=c.cells.size:=Z;rw [c4] at hn p F K f;have b1:((Array.range (b*e.size)).map (c.cells[· %c.cells.size]!)).toList.length=b*c.cells.size:=by simp [i]
 have hC:cB D (Mu X D l s) H (mC b (c.cells.toList.map T.c1)) c.cells.size ((Array.range (b*e.size)).map (c.cells[· %c.cells.size]!)).toList:=by
  refine cB.mC C p b1 λk hk=>?_;have b2:k<b*e.size:=by simpa using hk
  have J:=Nat.mod_lt k p;simp only [wP,zJ,Array.toList_range,xL b2,zM];rw [getElem!_pos c.cells _ J];simp [J]
 obtain ⟨v,M,x,q3,q4⟩:=uV p F hC (λc6 hc=>by
  simp only [mC,List.mem_replicate] at hc
  grind) c2 c3
 have c8:g.length=b:=by rw [q3];simp [mC]
 have w:fN P t b j H=some (.slice (some ⟨H.length,0,none⟩) b (eS b),H++[.row v e.size (some 0)]):=by
  unfold fN;simp only [hu,A,R];rw [zP ⟨C,by grind,i,Ie L A⟩];rw [i] at M;have y:Instr.fill (λc5=>some (c5*e.size,e.size)) ((Array.range (b*e.size)).map (c.cells[· %c.cells.size]!)) j=some v.toArray:=by rw [i];exact M
  simp only [y];have hl:=x.len;rw [zP ⟨x.oe,by grind⟩]
 cases m:Nat.beq b 0 with
 | true=>have n:=zU m;rw [m] at f;simp at f;cases f;subst n;obtain ⟨j1,j2⟩:=h.mI [.row v e.size (some 0)];refine ⟨_,_,D,ω,w,j1.put E .s0 lO,j2,λ_ id cs sz c9 y N=>?_⟩;rw [zD (h.fA _ _ _ _ N).2]
 | false=>
  rw [m] at f;simp at f;cases f;have n:b≠0:=by rintro rfl;cases m
  have b6:eS b=1:=zO n;rw [b6] at w;rw [<-i] at w;have:=bV.db h E (q:=q) (z:=fN P t b j H) (by grind) K x (λ_ c7=>n (by simp_all));exact this
theorem sK:∀{a:cD} {bs:List UInt8},cN a=some bs->∃b:List Int,a=b.map (λn=>[.v (.int .u8 n)])/\bs=b.map λn=>UInt8.ofNat n.toNat:=by
 intro a;induction a with
 | nil=>intro bs h;cases h;simp_all
 | cons x a d=>
  intro bs h;unfold cN at h;split at h
  simp_all
  rename_i n l e;cases e;obtain ⟨f,c,rfl⟩:=map_some h;obtain ⟨b,rfl,rfl⟩:=d c;exact ⟨n::b,rfl,rfl⟩;cases h
theorem sC (a:List Int):gX (a.map (Value.int .u8))=some (a.map λn=>UInt8.ofNat n.toNat):=by
 induction a with
 | nil=>rfl
 | cons n a b=>simp [gX,b]
theorem AL (a:List Int):cR 1 1 (a.map (λn=>[TV.v (.int .u8 n)]))=true:=by
 induction a with
 | nil=>rfl
 | cons n a b=>show (Nat.beq 1 1&&(bif Nat.beq 1 0 then true else true)&&cR 1 1 (a.map (λn=>[TV.v (.int .u8 n)])))=true;rw [b];rfl
theorem qz {g e:aP} (N:P.underlying t=some (.slice e)) (F:P.underlying g=some .string) (J:P.underlying e=some (.int .u8)) (L:∀r d o,(ob l s r)[d]? =some o->OR D M ω H (wr fl r d) r d o) {h:cD} {bs:List UInt8}
  (j:aO l s x=some h) (z:cN h=some bs) (m:TR D M H x w) (R:∃A n c,w= .slice A n c):jR P t g w H=some (.string ⟨bs.toArray⟩):=by
 obtain ⟨a,rfl,rfl⟩:=sK z;have ⟨X,f,p,q⟩:=kH L j (show 0<1 from Nat.one_pos) (AL a) m;obtain ⟨A,n,c,rfl⟩:=R;have b:=yD X;have E:f=a.map (Value.int .u8):=by have k:=q.len;simp at k;refine List.ext_getElem (by simp [k]) λi y g2=>?_;have K:i<a.length:=O;have:=q.rel i 0 [.v (.int .u8 a[i])] _ f[i] (by simp [K]) rfl (by simp [y]);simpa using this.vv
 unfold jR;simp only [N,F,J];rw [<-b] at p;rw [p,E];simp only;split;rename_i C;subst C;have:a=[]:=by
  cases m with
  | sn=>grind
  | v b1 b=>cases b
  | u=>cases j
 subst this;rfl;rw [sC];rfl
theorem bV.conv (h:St X D ω fl H τ l s V) {d:di} (p:∀k,d=some k->k<V.length) {b:aP} (m:TR D (Mu X D l s) H x u) (a:bJ P t b x l s=some y):bV X D ω fl H l s V d q (gH P t b u H) (y,τ,l,s):=by
 unfold bJ at a;split at a;rename_i c7 es;split at a;rename_i e f i;split at a;rename_i r;obtain ⟨bs,g,rfl⟩:=map_some a;have w:∃A n c,u= .slice A n c:=by cases m <;> exact ⟨_,_,_,rfl⟩
 have:=qz f i r h.ob rfl g m w;obtain ⟨A,n,c,rfl⟩:=w;refine bV.val h p ?_ (.v rfl rfl) kO;unfold gH
 simp_all
 cases a;cases a;rename_i d1 id d2 c8 n sz;split at a;rename_i e f i;split at a;rename_i r;obtain ⟨es,z,g⟩:=zQ.1 a;obtain ⟨bs,o,rfl⟩:=map_some g;have w:∃A n c,u= .slice A n c:=by cases m;exact ⟨_,_,_,rfl⟩
 have:=qz f i r h.ob z o m w;obtain ⟨A,n,c,rfl⟩:=w;refine bV.val h p ?_ (.v rfl rfl) kO;unfold gH
 simp_all
 cases a;cases a;rename_i c;cases m.vv;split at a;rename_i f i;cases a;refine bV.val h p ?_ (.v rfl rfl) kO;unfold gH
 simp_all
 rename_i e f i;split at a;rename_i r;split at a;rename_i c6;cases a;obtain ⟨j1,j2⟩:=h.mI [.row (c.data.toList.map λb=>.int .u8 b.toNat) 1 (some 0)];have L:(c.data.toList.map λb=>[TV.v (.int .u8 b.toNat)]).length=c.size:=Z;refine ⟨.slice (some ⟨H.length,0,none⟩) c.size 1,_,D,ω,?_,j1.put p ?_ kP,j2,λ_ id N sz d3 e1 e2=>?_⟩;unfold gH;simp only [f,i,tM,r]
 grind
 by_cases z:c.size=0;have:=zK (by rw [L,z]);rw [this,z];exact .se;rw [<-L];refine .sl (lS _ _) (λhm=>absurd (h.Pq hm) (wC _)) Z (λR b1=>?_) (λe=>by cases e) λb6 j R x c' C E F=>?_;obtain ⟨b,_,rfl⟩:=xW.1 b1;exact ⟨rfl,rfl⟩;rw [zJ] at C;cases K:c.data.toList[b6]? with
 | none=>simp_all
 | some b=>
  rw [K] at C;cases C;cases j with
  | succ j=>cases E
  | zero=>cases E;simp only [yZ,Nat.mul_one,Nat.add_zero,zJ,K,zM,xK] at F;subst F;exact .v rfl rfl
 rw [zD (h.fA _ _ _ _ e2).2];cases a;cases a;cases a;rename_i c3 c4 c5;obtain ⟨d4,g,o⟩:=zQ.1 a;have b2:=m.iF g;subst b2;split at o;rename_i f;simp at f;obtain ⟨c9,J,rfl⟩:=map_some o;have c2:∀G,gH P t b u G=((dt (aj P (convert t b u))).map λv=>(v,G)):=by
  intro G;cases u with
  | slice _ _ _=>exact absurd f.2 (by simp [vO])
  | string c=>
   exfalso;cases x with
   | v d5=>cases g;grind
   | ag N=>
    simp only [iF] at g
    simp_all
   | _=>cases g
  | _=>unfold gH;rw [zP f.1]
 rw [c2] at J;obtain ⟨v,h4,rfl⟩:=map_some J;have M:=fm h4;refine bV.val h p ?_ (.iU M) (.iU M)
 simp_all
 cases o
theorem bV.Zf (g:St X D ω fl H τ l s V) {d:di} (hd:∀y,d=some y->y<V.length) {R b6:aP} {N:TypeDesc} (L:P.underlying t=some (.map R b6)) (K:P.underlying R=some N)
  (r:TR D (Mu X D l s) H x u) (c4:TR D (Mu X D l s) H y v) (hv:TR D (Mu X D l s) H z w) {b1:ae×ae} (a:zy N fl x y z l s=some b1):bV X D ω fl H l s V d true ((iw P t u v w H).map λh=>(undef,h)) (.tu [],τ,b1):=by
 unfold zy at a;split at a;rename_i M y z;cases c4.vv;cases hv.vv;split at a;rename_i E cl q;split at a;rename_i hc;obtain ⟨c1,A,C⟩:=hc;obtain ⟨m,k,p,h3,h4⟩:=g.ob true M _ q;cases r with
 | mp J=>
  rw [k] at J;cases J;have F:∀(b:Array MapEntry) (f:Nat),(∀e∈b,ak e.key/\ak e.val)->iw P t (.map (some m)) v w H=some (H.set m (.mp b f))->bV X D ω fl H l s V d true ((iw P t (.map (some m)) v w H).map λh=>(undef,h)) (.tu [],τ,put l s true M (.mp b f)):=by
   intro b f c hq;obtain ⟨w1,w2⟩:=g.write (o':=.mp b f) q C rfl rfl k (.mp b f) (λx=>x) g.tm (λt i j E b2 c5 n o=>by
     obtain ⟨q1,q2⟩:=g.ow t i j E b2 c5 n o
     simp_all) (λ_ _=>rfl) (λ_ _ _ _=>rfl) ⟨m,k,zF (ab p),c,by simp_all⟩
   refine ⟨undef,_,D,_,by rw [hq];rfl,w1.put hd (.tu rfl λj x c6 r=>by simp at r) oy,w2,λ_ c8 cs sz c9 n o=>?_⟩;rw [zE];rintro rfl;refine g.ne q n rfl rfl k o C ?_ rfl;rintro ⟨e,_⟩;cases e
  split at a;rename_i i v0 hf;split at a;rename_i c7;cases a;refine F _ _ (λe c=>?_) (by simp only [iw,L,p,K];simp_all);obtain ⟨j,hj,rfl⟩:=Array.getElem_of_mem c;rw [Array.getElem_modify];split;exact ⟨gy c1,A⟩
  simp_all
  cases a;rename_i hf;cases a;refine F _ _ (λe c=>?_) (by simp only [iw,L,p,K];simp_all);rcases Array.mem_push.1 c with c|rfl
  grind
  exact ⟨gy c1,A⟩;cases a
 cases a;cases a;cases a
theorem r9:TR D M H (.tu []) undef:=.tu rfl λj x c a=>by simp at a
theorem bV.Yq (f:St X D ω fl H τ l s V) {d:di} (i:∀k,d=some k->k<V.length) (n:me P t=some a) (g:TR D (Mu X D l s) H x u) (o:TR D (Mu X D l s) H y v) {p:ae×ae} (m:cI a fl (bw y) l s x=some p):
  bV X D ω fl H l s V d false ((fD P t u v H).map λh=>(undef,h)) (.tu [],τ,p):=by
 obtain ⟨h,ω',r,w,A⟩:=f.store n m g o.bw none (λj c C k b _=>by
  rw [rp] at b;cases q:eG y 0 j with
  | none=>simp_all
  | some z=>rw [q] at b;exact absurd (yD b) (kY z c)) (λt=>.inl ⟨(λe=>by cases e),rfl⟩)
 exact ⟨undef,h,D,ω',by rw [r];rfl,w.put i r9 oy,A,λe=>by cases e⟩
theorem bV.Yp (c:St X D ω fl H τ l s V) {d:di} (z:∀k,d=some k->k<V.length) (v:me P t=some a) {b:Operand} (o:pF b) (q:TR D (Mu X D l s) H x u) {p:ae×ae} (r:cI a fl (aS τ b) l s x=some p):
  bV X D ω fl H l s V d false ((fD P t u (ev V b) H).map λh=>(undef,h)) (.tu [],dN τ b,p):=by
 have C:∃h ω',fD P t u (ev V b) H=some h/\St X D ω' fl h (dN τ b) p.1 p.2 V/\Xt X fl D ω H l s D ω' h p.1 p.2:=by
  cases b with
  | tmp m=>
   refine c.store v r q (av c o) (some m) (λj n f k g i=>?_) (λt=>?_);obtain ⟨w,y⟩:=c.ow m 0 j n f k g i
   simp_all
   rcases aL τ m t (bw (τ m)) with ⟨rfl,e⟩|⟨A,e⟩;exact .inr ⟨_,e,c.tm _⟩;exact .inl ⟨λF=>A (by grind),e⟩
  | _=>refine c.store v r q (av c o) none (λj n f k g i=>?_) (λt=>.inl ⟨λe=>(by cases e),rfl⟩);exact (ri o (λt e=>by cases e) 0 j n f k g i).elim
 obtain ⟨h,ω',w,y,E⟩:=C;exact ⟨undef,h,D,ω',by rw [w];rfl,y.put z r9 oy,E,λe=>by cases e⟩
theorem bV.after {f:aH} {g:Nat->Option Loc} {a:AH} {c:ae} (n:Xt X fl f g a r c D ω H l s) {d:di} {z:Option (aq×AH)} {b:TS} (i:bV X D ω fl H l s V d false z b):bV X f g fl a r c V d false z b:=by obtain ⟨v,h,E,ω',j,k,m,_⟩:=i;exact ⟨v,h,E,ω',j,k,n.trans m,λe=>by cases e⟩
theorem bV.st2 (f:St X D ω fl H τ l s V) {d:di} (j:∀k,d=some k->k<V.length) {t:aP} {n:Nat} (w:me P t=some n) {a:Operand} (i:pF a) {m:Nat} {y:TV} {l1 x:ae} (b:et l s (τ m)=some (y,l1,x)) {p:ae×ae} (q:cI n fl y l1 x (aS (aG τ m y) a)=some p):
  bV X D ω fl H l s V d false ((fD P t (ev V a) (ev V (.tmp m)) H).map λh=>(undef,h)) (.tu [],dN (aG τ m y) (.tmp m),p):=by
 have J:∀y,aS (aG τ m y) (.tmp m)=y:=λy=>cj τ m y;unfold et at b;split at b;rename_i o c g;cases b;have K:aG τ m (.sl o c)=τ:=by funext t;rcases aL τ m t (.sl o c) with ⟨rfl,e⟩|⟨_,e⟩;rw [e,g];exact e
 rw [K] at q ⊢;apply bV.Yp f j w rfl (av f i)
 grind
 rename_i r M R N k sz g;split at b;rename_i v z c F;split at b;rename_i E;obtain ⟨rfl,rfl,rfl,rfl,rfl,c1,C⟩:=E;cases b;obtain ⟨ω',A,L⟩:=f.freeze g F rfl c1 C;refine bV.after L (bV.Yp A j w rfl (av A i) ?_);rw [J];exact q;cases b;cases b;cases b
theorem bV.mv2 (h:St X D ω fl H τ l s V) {d:di} (n:∀k,d=some k->k<V.length) {x:Operand} {r:TS} (b:Oi τ x l s=some r):bV X D ω fl H l s V d false (some (ev V x,H)) r:=by
 cases x with
 | tmp m=>
  obtain ⟨⟨y,l1,M⟩,a,rfl⟩:=map_some b;clear b;have p:aS (aG τ m y) (.tmp m)=y:=cj τ m y;unfold et at a;split at a;rename_i o i j;cases a;have E:aG τ m (.sl o i)=τ:=by funext t;rcases aL τ m t (.sl o i) with ⟨rfl,e⟩|⟨_,e⟩;rw [e,j];exact e
  rw [E] at p ⊢;have:=bV.mv h n (x:=.tmp m) (q:=false) rfl rfl
  simp_all
  rename_i r K N L k sz j;split at a;rename_i v z i C;split at a;rename_i A;obtain ⟨rfl,rfl,rfl,rfl,rfl,c1,w⟩:=A;cases a;obtain ⟨ω',F,J⟩:=h.freeze j C rfl c1 w;have:=bV.mv F n (x:=.tmp m) (q:=false) rfl rfl;rw [p] at this;exact bV.after J this;cases a;cases a;cases a
 | const c=>cases b
 | global g=>cases b
 | func f=>cases b
theorem ud.of (h:St X D ω fl H τ l s V) {x:Option Operand} (a:∀y,x=some y->pF y):ud D (Mu X D l s) H (x.map (aS τ)) (x.map (ev V)):=by
 cases x with
 | none=>grind
 | some y=>exact .inr ⟨_,_,rfl,rfl,av h (a y rfl)⟩
theorem bV.build (h:St X D ω fl H τ l s V) {d:di} (R:∀k,d=some k->k<V.length) {pl:List (Nat×Nat)} (hz:zc P t=some o) (m:VZ P t=some pl) {ps:List (Nat×TV)} {r:List (Nat×aq)} (b1:Fl D (Mu X D l s) H ps r) {K:ao} (hf:iJ pl o ps=some K):
  bV X D ω fl H l s V d q ((mP P t r).map λc2=>(c2,H)) (.ag K,τ,l,s):=by
 obtain ⟨ei,zv,M,N,b,h4,rfl⟩:=qK hz;unfold VZ at m;split at m;rename_i c3 C;obtain ⟨b6,A,rfl⟩:=map_some m;obtain ⟨f,F,p,J⟩:=qb (λi b2 h=>by simpa using h) hf (.Jy b) (.Jy b) b1;refine bV.val h R (v:=.agg f.toArray) ?_ (.ag (Zs p.1) λj x c E y=>p.2 j x c E (Zs y)) λi j w a n g v=>?_;unfold mP;simp only [M,N];rw [zP b];simp only [C,A];have e:Instr.fill (b6[·]?) zv.cells r=some f.toArray:=by have:=F;simpa using this
 rw [e];rfl;cases i with
 | succ i=>cases g
 | zero=>exact J j w a n g (by simpa [mi,jt] using v)
 rename_i n el C;obtain ⟨L,A,rfl⟩:=map_some m;obtain ⟨f,F,p,J⟩:=qb (λi b2 h=>by rw [zJ] at h;obtain ⟨k,z,rfl⟩:=map_some h;rw [xL (by have:=ab z;simpa using this)] at z;cases z;rfl) hf (.Jy b) (.Jy b) b1
 refine bV.val h R (v:=.agg f.toArray) ?_ (.ag (Zs p.1) λj x c E y=>p.2 j x c E (Zs y)) λi j w a n g v=>?_;unfold mP;simp only [M,N];rw [zP b];simp only [C,A];have e:Instr.fill (λi=>some (i*L.size,L.size)) zv.cells r=some f.toArray:=by have:=F;simpa using this
 rw [e];rfl;cases i with
 | succ i=>cases g
 | zero=>exact J j w a n g (by simpa [mi,jt] using v)
 cases m
end
def fj (P:aB) (A:An) (j:Tc) (k:V.Callee):Prop:=
 ∀(K:Nat) (d:ao) (s:ae) (a:Nat) (r:TV) (b:ae),j K d s a=some (r,b)->eD P (real K)->
  ∀(X:Nat->Prop) (f:aH) (h:Nat->Option Loc) (H:AH) (e:aQ),St X f h (bif A.rw K then a else s.length) H (aI d) [] s e->e.length=d.length->
   ∃v c g i,k (real K) e H=some (v,c)/\St X g i (bif A.rw K then a else s.length) c (aI [r]) [] b [v]/\Xt X (bif A.rw K then a else s.length) f h H [] s g i c [] b/\(A.rw K=false->b=s)
section
variable {X:Nat->Prop} {D E:aH} {M J:Nat->Prop} {H h:AH} {ω ω':Nat->Option Loc} {P:aB} {A:An} {fl an:Nat} {τ τ':TF} {l s l' s':ae} {V:aQ} {callT:Tc}
theorem qa (h:St X D ω fl H τ l s V) {o:Oper} (f:∀c6,o.dst=some c6->c6<V.length) (d7:kN o) (f5:∀c4 args ts,o.op≠ .call {callee:=.value c4,args:=args,argTypes:=ts}) {c2:TS} (b:dC P A callT an fl o τ l s=some c2):
  bV X D ω fl H l s V o.dst (qf o) (fF P (ev V) o H) c2:=by
 have ⟨b6,op,c3,pos,c7,guard⟩:=o;have g:∀x∈op.operands,pF x:=λx j=>jM d7 j;cases op <;> simp only [dC] at b <;> (try (cases b;done))
 case move x=>
  have j:=g x (by simp [Op.operands]);cases K:Nat.beq an 1 with
  | true=>rw [K] at b;cases b;exact bV.mv h f j rfl
  | false=>
   rw [K] at b;simp at b;cases c5:Nat.beq an 2 with
   | true=>rw [c5] at b;exact bV.mv2 h f b
   | false=>rw [c5] at b;cases b;exact bV.val h f rfl (av h j).bw (.bw _ _)
 case assign x=>
  have j:=g x (by simp [Op.operands]);cases K:Nat.beq an 1 with
  | true=>rw [K] at b;cases b;exact bV.mv h f j rfl
  | false=>
   rw [K] at b;simp at b;cases c5:Nat.beq an 2 with
   | true=>rw [c5] at b;exact bV.mv2 h f b
   | false=>rw [c5] at b;cases b;exact bV.val h f rfl (av h j).bw (.bw _ _)
 case pick c a c8=>split at b;rename_i t hc;cases b;have F:=av h (g c (by simp [Op.operands]));rw [hc] at F;have F:=F.vv;have r:=(av h (g a (by simp [Op.operands]))).bw;have K:=(av h (g c8 (by simp [Op.operands]))).bw;refine bV.val h f (v:=if t then ev V a else ev V c8) ?_ ?_ (.bw _ _);simp only [fF,F];cases t;exact K;exact r;cases b
 case alloc e=>
  split at b;rename_i z d;cases K:Nat.beq an 2 with
  | true=>rw [K] at b;cases b;exact bV.alloc h f d true
  | false=>rw [K] at b;cases b;exact bV.alloc h f d false
  cases b
 case box e x=>have j:=g x (by simp [Op.operands]);split at b;split at b;rename_i M;cases b;exact bV.a0X h f (av h j) (xI.mp M).1 (xI.mp M).2;cases b;split at b;rename_i M;cases b;exact bV.a0W h f j (xI.mp M).1 (xI.mp M).2;cases b;split at b;rename_i M;cases b;exact bV.a0V h f (av h j) (xI.mp M).1 (xI.mp M).2;cases b;cases b
 case build t ps=>split at b;rename_i z pl d d8;obtain ⟨cs,hf,rfl⟩:=map_some b;exact bV.build h f d d8 (Fl.of λx j=>av h (g x (by simpa [Op.operands] using j))) hf;cases b
 case buildSlice t n ps=>
  split at b;rename_i el L;split at b;rename_i z d;split at b;rename_i hc;split at b;rename_i es hf;split at b;rename_i hs;have w:P.underlying t=some (.slice el):=by
   unfold Bo at L;split at L
   simp_all
   cases L
  exact bV.Me h f w d hc.1 hc.2.1 (by rw [List.map_map];exact hc.2.2) (Fl.of λx j=>av h (g x (by simpa [Op.operands] using j))) hf hs b;cases b;cases b;cases b;cases b;cases b
 case load t a=>
  have r:=av h (g a (by simp [Op.operands]));split at b;rename_i d2 n hr;cases K:Nat.beq an 1 with
  | true=>rw [K] at b;obtain ⟨b1,C,rfl⟩:=map_some b;have ⟨v,ω',m,k,p⟩:=h.take hr C r b6 f;exact ⟨v,H,D,ω',by simp only [fF,m,zM],k,p,λe=>by cases e⟩
  | false=>rw [K] at b;obtain ⟨y,R,rfl⟩:=map_some b;have ⟨v,m,k,p⟩:=A9 hr h.ob R r;exact bV.val h f (by simp only [fF,m,zM]) k p
  cases b
 case store t a x=>have r:=g a (by simp [Op.operands]);have j:=g x (by simp [Op.operands]);split at b;rename_i n M;split at b;obtain ⟨b1,C,rfl⟩:=map_some b;exact bV.Yq h f M (av h r) (av h j) C;obtain ⟨b1,C,rfl⟩:=map_some b;exact bV.Yp h f M j (av h r) C;split at b;rename_i d3;split at b;rename_i y l1 s1 hf;obtain ⟨b1,C,rfl⟩:=map_some b;exact bV.st2 h f M r hf C;cases b;cases b;cases b
 case nilCheck x=>obtain ⟨y,R,rfl⟩:=map_some b;have ⟨m,k,p⟩:=Cr R (av h (g x (by simp [Op.operands])));exact bV.val h f (by simp only [fF,m,zM]) k p
 case binOp op t x y ty=>obtain ⟨z,d,rfl⟩:=map_some b;have ⟨v,m,k,p⟩:=CE d (av h (g x (by simp [Op.operands]))) (av h (g y (by simp [Op.operands])));exact bV.val h f (by simp only [fF,m,zM]) k p
 case unOp op t x=>obtain ⟨z,d,rfl⟩:=map_some b;have ⟨v,m,k,p⟩:=G7 d (av h (g x (by simp [Op.operands])));exact bV.val h f (by simp only [fF,m,zM]) k p
 case convert a c8 x=>obtain ⟨z,d,rfl⟩:=map_some b;exact bV.conv h f (av h (g x (by simp [Op.operands]))) d
 case makeMap t c2=>
  cases c2 with
  | some _=>cases b
  | none=>
   cases b;have ⟨F,h2⟩:=h.add true (o:=.mp #[] 0) rfl (.mp #[] 0) (λx=>x) h.tm (λt i c9 es a n E e2=>by
     have ⟨m,k⟩:=h.ow t i c9 es a n E e2
     simp_all) (λ_ _=>rfl) (λ_ _ _ _=>rfl) λJ hl=>
    ⟨H.length,aH.add_same _ _ _ _ _,lS _ _,λe N=>by simp at N,zP rfl⟩
   exact ⟨_,_,_,_,rfl,F.put f (.mp (aH.add_same _ _ _ _ _)) Pd,h2,λe=>by cases e⟩
 case makeSlice t n c=>
  split at b;rename_i el L;split at b;rename_i z e d N;split at b;rename_i k1 i k2 c9 F h2;split at b;rename_i d6;subst d6;obtain ⟨b1,C,rfl⟩:=map_some b;have E:=av h (g n (by simp [Op.operands]));have e2:=av h (g c (by simp [Op.operands]));rw [F] at E C;rw [h2] at e2;have w:P.underlying t=some (.slice el):=by
   unfold Bo at L;split at L
   simp_all
   cases L
  have:=bV.make h f (q:=qf ⟨b6,.makeSlice t n c,c3,pos,c7,guard⟩) (k2:=k2) w d N C;simp only [fF,E.vv,e2.vv];exact this;cases b;cases b;cases b;cases b
 case slice t x lo hi mx=>obtain ⟨z,d,rfl⟩:=map_some b;have ⟨v,m,k,p⟩:=uP d h.ob (av h (g x (by simp [Op.operands]))) (ud.of h λy e=>g y (by simp [Op.operands,e])) (ud.of h λy e=>g y (by simp [Op.operands,e])) (ud.of h λy e=>g y (by simp [Op.operands,e]));exact bV.val h f (by simp only [fF,m,zM]) k p
 case fieldAddr t x c4=>split at b;rename_i o d2 n hf;split at b;rename_i M;obtain ⟨z,d,rfl⟩:=map_some b;have ⟨v,m,k,p⟩:=Gc hf M d (av h (g x (by simp [Op.operands])));exact bV.val h f (by simp only [fF,m,zM]) k p;cases b;cases b
 case field t x c4=>split at b;rename_i o d2 n hf;obtain ⟨z,d,rfl⟩:=map_some b;have ⟨v,m,k,p⟩:=Gj hf d (av h (g x (by simp [Op.operands])));exact bV.val h f (by simp only [fF,m,zM]) k p;cases b
 case indexAddr t x i=>have j:=av h (g x (by simp [Op.operands]));have hi:=av h (g i (by simp [Op.operands]));split at b;rename_i el w;have ⟨e,N,F⟩:=zQ.1 b;obtain ⟨z,d,rfl⟩:=map_some F;have ⟨v,m,k,p⟩:=Cv w N d j hi;exact bV.val h f (by simp only [fF,m,zM]) k p;rename_i f6 el w;have ⟨e,N,F⟩:=zQ.1 b;obtain ⟨z,d,rfl⟩:=map_some F;have ⟨v,m,k,p⟩:=Cw w N d j hi;exact bV.val h f (by simp only [fF,m,zM]) k p;cases b
 case index t x i=>obtain ⟨z,d,rfl⟩:=map_some b;have ⟨v,m,k,p⟩:=Cu d (av h (g x (by simp [Op.operands]))) (av h (g i (by simp [Op.operands])));exact bV.val h f (by simp only [fF,m,zM]) k p
 case lookup t x i ok=>obtain ⟨z,d,rfl⟩:=map_some b;unfold Ft at d;split at d;rename_i c6 e w;split at d;rename_i kd hk;have ⟨v,m,k,p⟩:=A8 w hk d h.ob (av h (g x (by simp [Op.operands]))) (av h (g i (by simp [Op.operands])));exact bV.val h f (by simp only [fF,m,zM]) k p;cases d;cases d
 case mapUpdate t d3 c6 x=>split at b;rename_i ky e w;split at b;rename_i kd hk;obtain ⟨b1,C,rfl⟩:=map_some b;exact bV.Zf h f w hk (av h (g d3 (by simp [Op.operands]))) (av h (g c6 (by simp [Op.operands]))) (av h (g x (by simp [Op.operands]))) C;cases b;cases b
 case extract x i=>
  have j:=g x (by simp [Op.operands]);cases K:Nat.beq an 1 with
  | true=>
   rw [K] at b;obtain ⟨y,R,rfl⟩:=map_some b;have ⟨vs,xs,v,E,e2,e3,e4,e5,e6⟩:=sG R (av h j);have r:Fg (ev V x) i=some v:=by rw [e3];exact e4
   cases x with
   | tmp t=>
    have E:τ t= .tu vs:=E;have e3:=e3;have ⟨ω',m,k⟩:=h.Pv E e2 e6 b6 f e3 e4;refine ⟨v,H,D,ω',by simp only [fF,r,zM],?_,k,λe=>by cases e⟩;have:y9 τ i (.tmp t)=aG τ t (.tu (vs.set i (dz y))):=by simp only [y9,ct,E,e2,Option.elim]
    simp_all
   | const c=>
    exfalso;have E:T.iU c= .tu vs:=E;unfold T.iU at E;split at E;cases E;unfold T.c1 at E
    grind
   | global d2=>cases j
   | func c4=>cases E
  | false=>
   rw [K] at b;obtain ⟨y,R,rfl⟩:=map_some b;have ⟨vs,xs,v,E,e2,e3,e4,e5,e6⟩:=sG R (av h j);have r:Fg (ev V x) i=some v:=by rw [e3];exact e4
   exact bV.val h f (by simp only [fF,r,zM]) e5.dz (.dz _ _ e6)
 case call c=>
  have ⟨callee,args,ts⟩:=c;cases callee with
  | value c4=>simp_all
  | invoke c2 d3=>cases b
  | builtin c8=>
   have d4:gS D (Mu X D l s) H (args.toList.map (aS τ)) (args.map (ev V)).toList:=by
    refine ⟨Z,λc9 x c j hc=>?_⟩;simp only [zJ,Array.getElem?_toList,wP] at j hc;cases C:args[c9]? with
    | none=>simp_all
    | some b1=>rw [C] at j hc;cases j;cases hc;exact av h (g b1 (by simp [Op.operands,Call.operands,wN C]))
   simp only at b;split at b;rename_i x y t0 t1 r b2;have j:=g x (by
    have:x∈args:=by rw [<-Array.mem_toList_iff,r];simp
    simp [Op.operands,Call.operands,this])
   have R:=g y (by
    have:y∈args:=by rw [<-Array.mem_toList_iff,r];simp
    simp [Op.operands,Call.operands,this])
   split at b;rename_i el d1 L f2;split at b;rename_i e N f1;split at b;rename_i d;have ⟨d,d9⟩:=d;obtain ⟨b1,C,rfl⟩:=map_some b;have ⟨zv,f3,f4⟩:=map_some d;have w:P.underlying t0=some (.slice el):=by
    unfold Bo at L;split at L
    simp_all
    cases L
   have:=bV.app (ty:=c3) h f w f2 f1 N f3 f4 d9 j R C;have e:fF P (ev V) ⟨b6,.call {callee:=.builtin .append,args:=args,argTypes:=ts},c3,pos,c7,guard⟩ H=cC P t0 t1 (ev V x) (ev V y) H:=by simp only [fF,qF,wP,r,yS,xX,b2]
   rw [e];exact this;cases b;cases b;cases b;rename_i x y t0 t1 r b2;have j:=g x (by
    have:x∈args:=by rw [<-Array.mem_toList_iff,r];simp
    simp [Op.operands,Call.operands,this])
   have R:=g y (by
    have:y∈args:=by rw [<-Array.mem_toList_iff,r];simp
    simp [Op.operands,Call.operands,this])
   split at b;rename_i el L;have ⟨e,N,F⟩:=zQ.1 b;obtain ⟨b1,C,rfl⟩:=map_some F;obtain ⟨ei,d5,rfl⟩:=jH N;have w:P.underlying t0=some (.slice el):=by
    unfold Bo at L;split at L
    simp_all
    cases L
   have:=bV.copy h f w d5 (av h j) (av h R) C;have e:fF P (ev V) ⟨b6,.call {callee:=.builtin .copy,args:=args,argTypes:=ts},c3,pos,c7,guard⟩ H=pw P t0 (ev V x) (ev V y) H:=by simp only [fF,qF,wP,r,yS,xX,b2]
   rw [e];exact this;cases b;rename_i x t r b2;have j:=av h (g x (by
    have:x∈args:=by rw [<-Array.mem_toList_iff,r];simp
    simp [Op.operands,Call.operands,this]))
   have e:∃cs,fF P (ev V) ⟨b6,.call {callee:=.builtin .len,args:=args,argTypes:=ts},c3,pos,c7,guard⟩ H=qF P .len ts c3 cs [ev V x] H:=⟨_,by simp only [fF,wP,r,yS,xX];rfl⟩
   have ⟨cs,e⟩:=e;rw [e];obtain ⟨z,d,rfl⟩:=map_some b;generalize aS τ x=xt at d j;generalize ev V x=xv at j;unfold eO at d;split at d;rename_i o es w;cases d;refine bV.val h f ?_ (.v rfl rfl) kO;cases j <;> simp only [qF,b2,w] <;> rfl;rename_i c2 id f8 f7 n sz w;cases d;refine bV.val h f ?_ (.v rfl rfl) kO;cases j;simp only [qF,b2,w];rename_i c w;cases d;refine bV.val h f ?_ (.v rfl rfl) kO;cases j;simp only [qF,b2,w];rename_i k0 e0 id w;split at d;rename_i es cl ho;cases d;have ⟨f9,F,h2,_⟩:=h.ob true id _ ho;refine bV.val h f ?_ (.v rfl rfl) kO;cases j with
   | mp hi=>rw [F] at hi;cases hi;simp only [qF,b2,w,h2]
   cases d;cases d;obtain ⟨z,d,rfl⟩:=map_some b;have ⟨v,m,k,p⟩:=Gm d d4;exact bV.val h f m k p
end
section
variable {X D:Nat->Prop} {E J:aH} {M h:Nat->Prop} {H H':AH} {ω ω':Nat->Option Loc} {P:aB} {fl:Nat} {τ τ':TF} {l s l' s':ae} {V:aQ}
theorem TR.pK {v:aq} (a:TR E M H x v) (s:∀v,h v->M v):na x->TR J h H x v:=by
 induction a with
 | u=>intro a;cases a
 | v a t=>intro _;exact .v a t
 | sn=>intro _;exact .sn
 | s0=>intro _;exact .s0
 | se=>intro _;exact .se
 | sl k l n f o y w=>intro _;exact .sl k (λr=>l (s _ r)) n f o λi j e x c b d g=>w i j e x c b d g (jh (f e (zI b)).2 d)
 | p a=>intro a;cases a
 | q a=>intro a;cases a
 | m a=>intro a;cases a
 | pe _ _ _ _ _=>intro a;cases a
 | mp a=>intro a;cases a
 | ag _ _=>intro a;cases a
 | tu _ _=>intro a;cases a
theorem TR.cH {v:aq} (a:TR E M H x v) (s:∀v,h v->M v) (o:∀g k l,E true g k=some l->J true g k=some l) (b:T.cH x):TR J h H x v:=by
 cases a with
 | u=>cases b
 | v a K=>exact .v a K
 | sn=>exact .sn
 | s0=>exact .s0
 | se=>exact .se
 | sl t w y f z F=>exact .sl t (λA=>w (s _ A)) y f z λi j e x c d n D=>(F i j e x c d n D).pK s (jh (f e (zI d)).2 n)
 | @p r g C l a=>cases r with
  | true=>exact .p (o _ _ _ a)
  | false=>cases b
 | @q r g k i sz C l a=>cases r with
  | true=>exact .q (o _ _ _ a)
  | false=>cases b
 | @m r g k i sz C l a=>cases r with
  | true=>exact .m (o _ _ _ a)
  | false=>cases b
 | pe t w y f z=>exact .pe t (λA=>w (s _ A)) y f λj x c d n=>(z j x c d n).pK s (jh f d)
 | mp a=>exact .mp (o _ _ _ a)
 | ag _ _=>cases b
 | tu _ _=>cases b
theorem TR.aW (a:TR E M H x u) (d:∀u,h u->M u) (b:∀g k i,E true g k=some i->J true g k=some i) (e:T.aW x):TR J h H x u:=by
 cases x with
 | ag n=>
  cases a with
  | ag m a=>exact .ag m λj x c f l=>(a j x c f l).cH d b (cO (by simpa [T.aW,T.ce] using e) f)
 | _=>exact a.cH d b (by simpa [T.aW,T.ce,cJ] using e)
theorem mH (h:bO o) (b:o[a]? =some x):T.aW x:=by
 induction o generalizing a with
 | nil=>cases b
 | cons y o c=>
  simp only [bO,zN] at h
  grind
theorem oq:aI o a=(o[a]?).getD .u:=by simp [aI,zG]
def idx:List Operand->Nat->di
 | [],_=>none
 | .tmp m::l,n=>if m=n then some 0 else (idx l n).map (· +1)
 | _::l,n=>(idx l n).map (· +1)
theorem At:∀{l:List Operand} {seen:aA} {k:Nat} {y:TV},(jO τ seen l)[k]? =some y->∃x,l[k]? =some x/\((y=aS τ x/\∀n,x= .tmp n->n∉seen/\idx l n=some k)\/∃z,y=bw z/\∃n,x= .tmp n/\z=τ n):=by
 intro l;induction l with
 | nil=>intro seen k y h;cases h
 | cons x l s=>
  intro seen k y h;have step:∀{i:aA} {f:TV},jO τ seen (x::l)=f::jO τ i l->(∀n,n∈seen->n∈i)->(∀m,x= .tmp m->m∈i)->((f=aS τ x/\∀n,x= .tmp n->n∉seen)\/∃z,f=bw z/\∃n,x= .tmp n/\z=τ n)->
    ∃a,(x::l)[k]? =some a/\((y=aS τ a/\∀n,a= .tmp n->n∉seen/\idx (x::l) n=some k)\/∃z,y=bw z/\∃n,a= .tmp n/\z=τ n):=by
   intro i f p r q g;rw [p] at h;cases k with
   | zero=>
    cases h;refine ⟨x,rfl,?_⟩;rcases g with ⟨e,b⟩|g;refine .inl ⟨e,λn d=>⟨b n d,?_⟩⟩;subst d;simp [idx]
    grind
   | succ k=>
    obtain ⟨a,t,c⟩:=s (Zs h);refine ⟨a,by grind,?_⟩;rcases c with ⟨c,e3⟩|c;refine .inl ⟨c,λn d=>?_⟩;have ⟨j,o⟩:=e3 n d;refine ⟨λg=>j (r n g),?_⟩;cases x with
    | tmp m=>
     have:m≠n:=by rintro rfl;exact j (q m rfl)
     simp [idx,this,o]
    | _=>simp [idx,o]
    grind
  cases x with
  | tmp m=>
   refine step rfl (λn b=>by simp [b]) (λw e=>by grind) ?_;cases v:seen.contains m with
   | true=>simp_all
   | false=>
    refine .inl ⟨rfl,λn e=>?_⟩
    simp_all
  | _=>exact step rfl (λn b=>b) (λm e=>by cases e) (.inl ⟨rfl,λn e=>by cases e⟩)
theorem Ah:∀(l:List Operand) (τ:TF) (t:Nat),(lD τ l t=τ t/\idx l t=none)\/∃y,lD τ l t=bw y/\(∀(M:Nat->Prop) (E:aH) (H:AH) (v:aq),TR E M H (τ t) v->TR E M H y v):=by
 intro l;induction l with
 | nil=>intro τ t;exact .inl ⟨rfl,rfl⟩
 | cons x l d=>
  intro τ t;cases x with
  | tmp m=>
   rcases d (dN τ (.tmp m)) t with ⟨a,b⟩|⟨y,a,b⟩;rcases aL τ m t (bw (τ m)) with ⟨rfl,e⟩|⟨c,e⟩;refine .inr ⟨τ t,a.trans e,λ_ _ _ _ h=>h⟩;exact .inl ⟨a.trans e,by simp [idx,Ne.symm c,b]⟩;refine .inr ⟨y,a,λM E H v h=>b M E H v ?_⟩;rcases aL τ m t (bw (τ m)) with ⟨rfl,e⟩|⟨c,e⟩;show TR E M H (aG τ t (bw (τ t)) t) v;rw [e];exact h.bw;show TR E M H (aG τ m (bw (τ m)) t) v
   grind
  | _=>rcases d τ t with ⟨a,b⟩|⟨y,a,b⟩;exact .inl ⟨a,by simp [idx,b]⟩;exact .inr ⟨y,a,b⟩
end
def tZ (rw b:Bool) (a:List Operand) (c:Nat->Option Loc):Nat->Option Loc:=λv=>match c v with
 | some (.t n i j)=>bif b then (idx a n).map λk=>.t k i j else none
 | some (.c true id j)=>bif rw then some (.c true id j) else none
 | some (.o true id)=>bif rw then some (.o true id) else none
 | _=>none
def H6 (d:Nat) (H:AH) (a c b:Nat->Option Loc):Nat->Option Loc:=λv=>if v<H.length/\c v=none then a v else match b v with
 | some (.t _ i j)=>some (.t d i j)
 | some (.c true id j)=>some (.c true id j)
 | some (.o true id)=>some (.o true id)
 | _=>none
section
variable {X:Nat->Prop} {D:aH} {H:AH} {h:Nat->Option Loc} {P:aB} {A:An} {fl:Nat} {E:TF} {l J:ae} {V:aQ} {callT:Tc} {callV:Nat->aQ->AH->Option (aq×AH)}
def XC (X:Nat->Prop) (D:aH) (l:ae):Nat->Prop:=λv=>X v\/∃a o k,l[a]? =some o/\o.az=some k/\D false a k=some v
def LD (D:aH):aH:=λr a k=>bif r then D true a k else none
theorem MuC {e:aH}:∀v,Mu (XC X D l) (LD e) [] J v↔(XC X D l v\/∃a o k,J[a]? =some o/\o.az=some k/\e true a k=some v):=by
 intro v;constructor;rintro (h|⟨r,a,o,k,b,c,d⟩);exact .inl h;cases r with
 | false=>simp [ob] at b
 | true=>exact .inr ⟨a,o,k,b,c,d⟩
 rintro (h|⟨a,o,k,b,c,d⟩);exact .inl h;exact .inr ⟨true,a,o,k,b,c,d⟩
theorem Fq:∀v,Mu X D l J v↔(XC X D l v\/∃a o k,J[a]? =some o/\o.az=some k/\D true a k=some v):=by
 intro v;constructor;rintro (h|⟨r,a,o,k,b,c,d⟩);exact .inl (.inl h);cases r with
 | false=>exact .inl (.inr ⟨a,o,k,b,c,d⟩)
 | true=>exact .inr ⟨a,o,k,b,c,d⟩
 rintro ((h|⟨a,o,k,b,c,d⟩)|⟨a,o,k,b,c,d⟩);exact .inl h;exact .inr ⟨false,a,o,k,b,c,d⟩;exact .inr ⟨true,a,o,k,b,c,d⟩
theorem eA:∀(l:List Operand) (seen:aA),(jO E seen l).length=l.length
 | [],_=>rfl
 | .tmp n::l,seen=>yH (· +1) (eA l (n::seen))
 | .const _::l,seen=>yH (· +1) (eA l seen)
 | .global _::l,seen=>yH (· +1) (eA l seen)
 | .func _::l,seen=>yH (· +1) (eA l seen)
theorem bV.call (h9:fj P A callT callV) (s:St X D h fl H E l J V) {c7:di} (hd:∀k,c7=some k->k<V.length) {K:Nat} {z:List Operand} (f6:∀x∈z,pF x) (e6:bO (bif A.aM K then jO E [] z else z.map λx=>dz (aS E x))=true)
  {d1:TV×ae} (hp:callT K (bif A.aM K then jO E [] z else z.map λx=>dz (aS E x)) J fl=some d1) (i1:eD P (real K)):
  ∃v R c5 c6,callV (real K) (z.map (ev V)) H=some (v,R)/\St X c5 c6 fl R (dT (bif A.aM K then lD E z else E) c7 d1.1) l d1.2 (bZ V c7 v)/\Xt X fl D h H l J c5 c6 R l d1.2/\
   (∀b o k d,l[b]? =some o->o.az=some k->D false b k=some d->R[d]? =H[d]?)/\
   (A.rw K=false->∀b o k d,J[b]? =some o->o.az=some k->D true b k=some d->R[d]? =H[d]?):=by
 obtain ⟨r,s'⟩:=d1;generalize d5:(bif A.aM K then jO E [] z else z.map λx=>dz (aS E x))=xs at e6 hp;have i4:(z.map (ev V)).length=xs.length:=by rw [<-d5];cases A.aM K <;> simp [eA]
 have f7:∀k y,xs[k]? =some y->∃x,z[k]? =some x/\((A.aM K=true/\y=aS E x/\∀n,x= .tmp n->idx z n=some k)\/∃c4,y=dz c4/\c4=aS E x\/y=bw c4/\c4=aS E x):=by
  intro k y N;cases C:A.aM K with
  | true=>
   rw [C] at d5;simp at d5;rw [<-d5] at N;obtain ⟨x,p,w⟩:=At N;refine ⟨x,p,?_⟩;rcases w with ⟨w,e3⟩|⟨c4,w,n,rfl,e3⟩
   simp_all
   exact .inr ⟨c4,.inr ⟨w,e3⟩⟩
  | false=>grind
 have f8:∀b o k d,l[b]? =some o->o.az=some k->D false b k=some d->h d=some (.o false b):=by intro b o k d h1 h2 h3;obtain ⟨v1,a1,a2⟩:=(s.ob false b o h1).dH h2;rw [h3] at a1;cases a1;exact a2
 have d8:∀v,Mu (XC X D l) (LD D) [] J v↔Mu X D l J v:=λv=>(MuC v).trans (Fq v).symm;have j2:∀b,b<J.length->wr (bif A.rw K then fl else J.length) true b=(A.rw K&&wr fl true b):=by
  intro b hid;cases b6:A.rw K with
  | true=>simp
  | false=>
   simp only [cond_false,Bool.false_and,wr,cond_true];cases hb:Nat.ble J.length b with
   | false=>rfl
   | true=>have:=yN hb;omega
 have hC:St (XC X D l) (LD D) (tZ (A.rw K) (A.aM K) z h) (bif A.rw K then fl else J.length) H (aI xs) [] J (z.map (ev V)):=by
  refine ⟨λt=>?_,λt i j F a n p w=>?_,λr b o ho=>?_,λv h7 c=>?_,λr b k v c=>?_,?_,λv c=>?_,λv c=>?_⟩;rw [oq];cases N:xs[t]? with
  | none=>exact .u
  | some y=>
   obtain ⟨x,p,w⟩:=f7 t y N;have d7:(z.map (ev V)).getD t undef=ev V x:=by simp [zG,p]
   rw [d7];have f1:=av s (f6 x (zI p));have j5:TR D (Mu X D l J) H y (ev V x):=by rcases w with ⟨_,rfl,_⟩|⟨c4,⟨rfl,rfl⟩|⟨rfl,rfl⟩⟩;exact f1;exact f1.dz;exact f1.bw
   exact j5.aW (λv c=>(d8 v).1 c) (λb k d e=>e) (mH e6 N)
  rw [oq] at p;cases N:xs[t]? with
  | none=>rw [N] at p;cases i <;> cases j <;> simp [eG,iG] at p
  | some y=>
   rw [N] at p;simp at p;obtain ⟨x,f,q⟩:=f7 t y N;have d7:(z.map (ev V)).getD t undef=ev V x:=by simp [zG,f]
   rw [d7] at w;have h5:=mH e6 N;rcases q with ⟨C,rfl,m⟩|⟨c4,⟨rfl,rfl⟩|⟨rfl,rfl⟩⟩;cases x with
   | tmp h8=>obtain ⟨q1,q2⟩:=s.ow h8 i j F a n p w;refine ⟨?_,q2⟩;simp [tZ,q1,C,m h8 rfl]
   | _=>exact (ri (f6 _ (zI f)) (λt e=>by cases e) i j F a n p w).elim
   exfalso;have i7:∀vs,aS E x≠ .tu vs:=by intro vs e;rw [e] at h5;simp [T.aW,ce,dz,dX,cJ,T.cH] at h5
   exact (NO.dz _ _ i7) i j F a n p w;exact ((NO.bw _ _) i j F a n p w).elim
  cases r with
  | false=>simp [T.ob] at ho
  | true=>
   have d3:=ho;have hid:=ab d3;have d4:=s.ob true b o ho;rw [j2 b hid];have f2:∀d k,o.az=some k->D true b k=some d->tZ (A.rw K) (A.aM K) z h d=bif (A.rw K&&wr fl true b) then some (.o true b) else none:=by intro d k C hi;obtain ⟨v1,a1,a2⟩:=d4.dH C;rw [hi] at a1;cases a1;simp only [tZ,a2];cases wr fl true b <;> cases A.rw K <;> rfl
   have c8:Le D (Mu X D l J) H (LD D) (Mu (XC X D l) (LD D) [] J) H->True:=λ_=>trivial;have h4:∀{x:TV} {v:aq},TR D (Mu X D l J) H x v->T.cH x->TR (LD D) (Mu (XC X D l) (LD D) [] J) H x v:=λhx hn=>hx.cH (λv c=>(d8 v).1 c) (λb k d e=>e) hn;cases o with
   | row cs sz=>obtain ⟨g0,d,c2,f,q,m,g4,g5⟩:=d4;refine ⟨g0,d,c2,f,q,⟨m.1,λj x d6 hx hc=>h4 (m.2 j x d6 hx hc) (cO g0 hx)⟩,f2 d 0 rfl f,λM j F a n p w=>?_⟩;simp at M;obtain ⟨q1,q2⟩:=g5 M.2 j F a n p w;exact ⟨by simp [tZ,q1,M.1],q2⟩
   | aY k sz F=>obtain ⟨d,c2,f,q,m,g4,g5,g6⟩:=d4;exact ⟨d,c2,f,q,m,⟨g4.1,g4.2.1,λi j e x d6 p w e3=>h4 (g4.2.2 i j e x d6 p w e3) (iO (fi (g4.1 e (zI p)).2 w))⟩,f2 d k rfl f,g6⟩
   | mp F cl=>obtain ⟨d,f,q,m,g4⟩:=d4;exact ⟨d,f,q,m,f2 d 0 rfl f⟩
   | dead=>trivial
  simp only [tZ] at c;cases M:h v with
  | none=>simp_all
  | some f3=>exact s.lt v f3 M
  cases r with
  | false=>cases c
  | true=>exact s.fA true b k v c
  cases A.rw K with
  | true=>exact s.mJ
  | false=>simp_all
  rcases c with c|⟨b,o,k,f,q,m⟩;exact s.xl v c;exact (s.fA _ _ _ _ m).2;rcases c with c|⟨b,o,k,f,q,m⟩;simp [tZ,s.xo v c];simp [tZ,f8 b o k v f q m]
 obtain ⟨v,R,c5,c6,k1,k2,k3,k4⟩:=h9 K xs J fl r s' hp i1 _ _ _ _ _ hC i4;let c3:aH:=λr b k=>bif r then c5 true b k else D false b k
 let L:=tZ (A.rw K) (A.aM K) z h
 let f4:=H6 (c7.getD 0) H h L c6
 have c9:∀v,v<H.length->L v=none->R[v]? =H[v]? /\f4 v=h v/\c6 v=none:=by intro v c hn;obtain ⟨f,q⟩:=k3.same v c hn;exact ⟨f,zP ⟨c,hn⟩,q⟩
 have h6:∀r b k v,D r b k=some v->c3 r b k=some v:=by
  intro r b k v c;cases r with
  | false=>exact c
  | true=>exact k3.qp true b k v c
 have j6:∀r b k v,c5 r b k=some v->c3 r b k=some v:=by
  intro r b k v c;cases r with
  | false=>exact absurd (k2.fA _ _ _ _ c).1 (Nat.not_lt_zero _)
  | true=>exact c
 have d9:∀v,Mu X c3 l s' v↔Mu (XC X D l) c5 [] s' v:=by
  intro v;constructor;rintro (hx|⟨r,b,o,k,f,q,m⟩);exact .inl (.inl hx);cases r with
  | false=>exact .inl (.inr ⟨b,o,k,f,q,m⟩)
  | true=>exact .inr ⟨true,b,o,k,f,q,m⟩
  rintro ((hx|⟨b,o,k,f,q,m⟩)|⟨r,b,o,k,f,q,m⟩);exact .inl hx;exact .inr ⟨false,b,o,k,f,q,m⟩;cases r with
  | false=>simp [T.ob] at f
  | true=>exact .inr ⟨true,b,o,k,f,q,m⟩
 have c8:Le D (Mu X D l J) H c3 (Mu X c3 l s') R:=⟨h6,λv c2 sz lo c hm=>by
  have g7:=λe=>hm ((d8 v).1 e);refine ⟨λe=>?_,k3.aM v c2 sz lo c g7⟩;rcases k3.mu v ((d9 v).1 e) with g|g;exact g7 g
  simp_all⟩
 have f9:Le c5 (Mu (XC X D l) c5 [] s') R c3 (Mu X c3 l s') R:=⟨j6,λv c2 sz lo c hm=>⟨λe=>hm ((d9 v).1 e),lo,c⟩⟩;have i3:∀b o k d,l[b]? =some o->o.az=some k->D false b k=some d->d<H.length/\L d=none:=by intro b o k d f q m;exact ⟨(s.fA _ _ _ _ m).2,by simp [L,tZ,f8 b o k d f q m]⟩
 have i5:∀v,h v=none->L v=none:=λv c=>by simp [L,tZ,c]
 have f5:St X c3 f4 fl R (bif A.aM K then lD E z else E) l s' V:=by
  have g9:∀t,(∃y,(bif A.aM K then lD E z else E) t=bw y/\TR D (Mu X D l J) H y (V.getD t undef))\/((bif A.aM K then lD E z else E) t=E t/\(A.aM K=true->idx z t=none)):=by
   intro t;cases C:A.aM K with
   | false=>simp_all
   | true=>
    simp only [cond_true];rcases Ah z E t with ⟨p,w⟩|⟨y,p,w⟩
    simp_all
    exact .inl ⟨y,p,w _ _ _ _ (s.tm t)⟩
  refine ⟨λt=>?_,λt i j F a n p w=>?_,λr b o ho=>?_,λv h7 c=>?_,λr b k v c=>?_,?_,λv c=>?_,λv c=>?_⟩;rcases g9 t with ⟨y,e,N⟩|⟨e,_⟩;rw [e];exact N.bw.mono c8;rw [e];exact (s.tm t).mono c8;rcases g9 t with ⟨y,e,N⟩|⟨e,hn⟩;rw [e] at p;exact ((NO.bw _ _) i j F a n p w).elim;rw [e] at p;obtain ⟨q1,q2⟩:=s.ow t i j F a n p w;have hc:L a.block=none:=by
   simp only [L,tZ,q1];cases C:A.aM K with
   | false=>rfl
   | true=>simp [hn C]
  obtain ⟨f,q,_⟩:=c9 _ (s.lt _ _ q1) hc;exact ⟨q.trans q1,q2.aM f⟩;cases r with
  | false=>
   refine (s.ob false b o ho).other c8 (λk v C hi=>?_) (λk sz F _ k' _ C=>C) (λ_ a j hc g8=>?_);obtain ⟨f,q⟩:=i3 b o k v ho C hi
   simp_all
   obtain ⟨m,g4,_⟩:=c9 _ (s.lt _ _ hc) (by simp [L,tZ,hc])
   simp_all
  | true=>
   have d3:=ho;have d2:=k2.ob true b o ho;by_cases M:A.rw K/\fl<=b;have i9:wr (bif A.rw K then fl else J.length) true b=true:=by rw [M.1];exact zX M.2
   have j1:wr fl true b:=zX M.2;rw [i9] at d2;rw [j1];refine d2.other f9 (λk v C hi=>⟨rfl,?_⟩) (λk sz F _ k' _ C=>C) (λ_ a j hc g8=>⟨?_,rfl⟩);obtain ⟨v2,b1,b2⟩:=d2.dH C;rw [hi] at b1;cases b1;have b2:c6 v=some (.o true b):=b2;show H6 _ _ _ _ _ v=c6 v;unfold H6;rw [zO];rw [b2]
   grind
   show H6 _ _ _ _ _ a.block=_;unfold H6;rw [zO];rw [hc]
   grind
   have hs:J[b]? =some o:=by
    cases b6:A.rw K with
    | false=>rw [<-k4 b6];exact d3
    | true=>
     have hid:b<fl:=by
      rcases zZ b fl with g|g;exact g
      simp_all
     have:=k3.Bm b (by simp_all);rw [<-this];exact d3
   have i6:∀d k,o.az=some k->D true b k=some d->L d=none:=by
    intro d k C hi;obtain ⟨v1,a1,a2⟩:=(s.ob true b o hs).dH C;rw [hi] at a1;cases a1;simp only [L,tZ,a2];cases j3:wr fl true b with
    | false=>rfl
    | true=>
     have:A.rw K=false:=by
      cases b6:A.rw K with
      | false=>rfl
      | true=>exact absurd ⟨b6,yN j3⟩ M
     simp [this]
   refine (s.ob true b o hs).other c8 (λk v C hi=>?_) (λk sz F eo k' j7 _=>?_) (λj4 a j hc g8=>?_);obtain ⟨m,g4,_⟩:=c9 v (s.fA _ _ _ _ hi).2 (i6 v k C hi)
   simp_all
   subst eo;obtain ⟨d,c2,f,q,m,g4,g5,g6⟩:=d2
   grind
   have i2:L a.block=none:=by
    simp only [L,tZ,hc];have:A.rw K=false:=by
     cases b6:A.rw K with
     | false=>rfl
     | true=>exact absurd ⟨b6,yN j4⟩ M
    simp [this]
   obtain ⟨m,g4,_⟩:=c9 _ (s.lt _ _ hc) i2
   simp_all
  have c:H6 _ _ _ _ _ v=some h7:=c;unfold H6 at c;split at c
  grind
  cases M:c6 v with
  | none=>simp_all
  | some f3=>exact k2.lt v f3 M
  cases r with
  | false=>have g:=s.fA false b k v c;have:=k3.len;exact ⟨g.1,O⟩
  | true=>exact k2.fA true b k v c
  cases b6:A.rw K with
  | true=>
   have:=k2.mJ
   simp_all
  | false=>rw [k4 b6];exact s.mJ
  have:=s.xl v c;have:=k3.len;omega;have g:=s.xo v c;rw [(c9 v (s.xl v c) (i5 v g)).2.1];exact g
 refine ⟨v,R,c3,f4,k1,?_,⟨h6,k3.len,λv c hn=>?_,λv c2 sz lo c hm=>(c8.aM v c2 sz lo c hm).2,λv c=>?_,λb hid=>?_⟩,λb o k d f q m=>?_,λb6 b o k d f q m=>?_⟩;cases c7 with
 | none=>exact f5
 | some c7=>
  have h0:=k2.tm 0;refine f5.Aj (hd c7 rfl) (h0.mono f9) λi j F a n p w=>?_;obtain ⟨q1,q2⟩:=k2.ow 0 i j F a n p w;refine ⟨?_,q2⟩;show H6 _ _ _ _ _ a.block=_;unfold H6;rw [zO];rw [q1];rfl
  grind
 simp_all
 rcases k3.mu v ((d9 v).1 c) with g|g
 simp_all
 exact .inr g;cases b6:A.rw K with
 | true=>exact k3.Bm b (by simp_all)
 | false=>rw [k4 b6]
 grind
 obtain ⟨v1,a1,a2⟩:=(s.ob true b o f).dH q;rw [m] at a1;cases a1;refine (c9 d (s.fA _ _ _ _ m).2 ?_).1;simp only [L,tZ,a2]
 grind
end
section
variable {X:Nat->Prop} {D E:aH} {M J:Nat->Prop} {H h:AH} {ω ω':Nat->Option Loc} {P:aB} {A:An} {fl:Nat} {τ τ':TF} {l s l' s':ae} {V:aQ} {callT:Tc} {callV:Nat->aQ->AH->Option (aq×AH)} {ops:Array Oper}
theorem x9 {v:aq} (h:TR D M H x v) (a:r8 x):kp v v:=by
 cases h with
 | v h b=>cases v <;> simp_all [r8,kp]
 | u=>cases a
 | ag _ _=>cases a
 | tu _ _=>cases a
 | _=>simp [kp]
theorem Cg (h:zw o) (b:o[a]? =some x):r8 x:=by
 induction o generalizing a with
 | nil=>cases b
 | cons y o c=>
  simp only [zw,zN] at h
  grind
theorem x8 {f:aq->aq->Bool}:∀(d c:aQ),d.length=c.length->(∀(j:Nat) (x y:aq),d[j]? =some x->c[j]? =some y->f x y)->((d.zip c).all λp=>f p.1 p.2)=true:=by
 intro d;induction d with
 | nil=>simp_all
 | cons x d g=>
  intro c e h;cases c with
  | nil=>cases e
  | cons y c=>simp only [List.zip_cons_cons,List.all_cons,zN];exact ⟨h 0 x y rfl rfl,g c (by grind) λj a b i k=>h (j+1) a b (by grind) (by grind)⟩
theorem JS (h:TR D M H x v) (c:zx x):FV v v:=by
 cases x with
 | ag i=>
  cases h with
  | @ag _ p n h=>simp only [FV,zN,beq_self_eq_true,true_and];refine x8 _ _ rfl λj a b d f=>?_;rw [d] at f;cases f;have m:=ab d;have g:=zA (show j<i.length by simp_all);exact x9 (h j _ a g (by grind)) (Cg c g)
 | u=>cases c
 | tu o=>cases c
 | _=>have k:=x9 h c;have l:=(h.leaf (λ_ e=>by cases e) (λ_ e=>by cases e) (λe=>by cases e)).1;unfold FV;split;exact absurd rfl (l _);exact k
theorem sH {v:aq} (h:nT x y) (i:TR D M H x v) (j:TR D M H y u):kp v u/\(∀o,v≠ .agg o):=by
 unfold nT at h;split at h;rename_i a b;cases i.vv;cases j.vv;refine ⟨h,?_⟩;rintro o rfl;cases i with|v h _=>simp [ak] at h
 simp only [zN,beq_iff_eq] at h;obtain ⟨⟨rfl,f⟩,g⟩:=h;cases zU f;cases zU g;cases i with
 | p d=>cases j with
  | p c=>rw [d] at c;cases c;exact ⟨by simp [kp],λ_ e=>by cases e⟩
 simp only [zN,beq_iff_eq] at h;obtain ⟨⟨⟨⟨⟨rfl,f⟩,g⟩,k⟩,l⟩,n⟩:=h;cases zU f;cases zU g;cases zU k;cases zU l;cases zU n;cases i with
 | q d=>cases j with
  | q c=>rw [d] at c;cases c;exact ⟨by simp [kp],λ_ e=>by cases e⟩
 simp only [zN,beq_iff_eq] at h;obtain ⟨⟨⟨⟨⟨rfl,f⟩,g⟩,k⟩,l⟩,n⟩:=h;cases zU f;cases zU g;cases zU k;cases zU l;cases zU n;cases i with
 | m d=>cases j with
  | m c=>rw [d] at c;cases c;exact ⟨by simp [kp],λ_ e=>by cases e⟩
 cases h
theorem Cz:∀{b a:ao},Gk b a->b.length=a.length/\∀(j:Nat) (x y:TV),b[j]? =some x->a[j]? =some y->nT x y:=by
 intro b;induction b with
 | nil=>
  intro a h;cases a with
  | nil=>simp_all
  | cons _ _=>cases h
 | cons x b c=>
  intro a h;cases a with
  | nil=>cases h
  | cons y a=>
   simp only [Gk,zN] at h
   grind
theorem Gl (h:uW x y) (e:TR D M H x u) (f:TR D M H y v):FV u v:=by
 unfold uW at h;split at h;rename_i o p;have ⟨g,i⟩:=Cz h;cases e with
 | @ag _ t q k=>
  cases f with
  | @ag _ w r l=>simp only [FV,zN,beq_iff_eq];refine ⟨O,x8 _ _ W λj a b m s=>?_⟩;have n:=ab m;simp at n;have c:=zA (show j<o.length by omega);have d:=zA (show j<p.length by omega);exact (sH (i j _ _ c d) (k j _ a c (by grind)) (l j _ b d (by grind))).1
 have ⟨g,i⟩:=sH h e f;unfold FV;split
 simp_all
 exact g
theorem iI (h:St X D ω fl H τ l s V) {o:Oper} (b:jo ops τ o=some q):Region.wanted o (bH ops V)=q:=by
 unfold jo at b;unfold Region.wanted;split at b
 simp_all
 rename_i j m i;rw [i];simp only;split at b;rename_i d g;have a:=h.tm d;have k:bH ops V j=match V[d]? with|some (.bool q)=>some q|_=>none:=by unfold bH;rw [g];rfl
 rw [k];unfold Nh at b;split at b;rename_i c e;rw [e] at a;have a:=a.vv;rw [zG] at a;cases f:V[d]? with
 | none=>rw [f] at a;cases a
 | some v=>simp_all
 rename_i e;rw [e] at a;cases b;rw [zG] at a;cases f:V[d]? with
 | none=>rfl
 | some v=>
  rw [f] at a;simp at a;cases a with
  | tu _ _=>rfl
 cases b;cases b
def nt (P:aB) (ops:Array Oper) (V:aQ) (H:AH) (j:Nat):Prop:=
 ∃o t a d,ops[j]? =some o/\o.op= .load t a/\o.dst=some d/\(Region.wanted o (bH ops V)=true->cV P t (ev V a) H=some (V.getD d undef))/\d<V.length
theorem vT {V:aQ} {b:di} {a:Operand} (h:∀d,b=some d->a≠ .tmp d):ev (bZ V b u) a=ev V a:=by
 cases a with
 | tmp n=>
  cases b with
  | none=>rfl
  | some d=>
   have:d≠n:=by rintro rfl;exact h d rfl rfl
   exact dQ this
 | _=>rfl
theorem oL {b:di} (c:indep ops b a) {o:Oper} (g:ops[a]? =some o) {e:Operand} (h:o.op= .load t e):(∀d,b=some d->e≠ .tmp d)/\∀d,b=some d->o.dst≠some d:=by
 unfold indep at c;constructor;intro d f;subst f;rw [g] at c;simp only [zN,xG,bne_iff_ne,ne_eq] at c;rintro rfl;have:d∈o.looksAt ops:=by unfold Oper.looksAt;apply List.mem_append_left _;rw [List.mem_filterMap];exact ⟨.tmp d,by simp [h,Op.operands],rfl⟩
 simp_all
 grind
theorem pU {o:Oper} (c:(o.looksAt ops).contains a=false):Region.wanted o (bH ops (V.set a u))=Region.wanted o (bH ops V):=by
 unfold Region.wanted;cases f:o.guard with
 | none=>rfl
 | some g=>
  have ⟨b,i⟩:=g;have:bH ops (V.set a u) b=bH ops V b:=by
   unfold bH;cases e:(ops[b]?).bind (·.dst) with
   | none=>rfl
   | some d=>
    have h:a≠d:=by
     rintro rfl;have:a∈o.looksAt ops:=by unfold Oper.looksAt;apply List.mem_append_right _;rw [f];simp [e]
     rw [List.contains_iff_mem.2 this] at c;cases c
    simp_all
  simp_all
theorem wanted_put {c:di} (b:indep ops c a) {o:Oper} (e:ops[a]? =some o):Region.wanted o (bH ops (bZ V c u))=Region.wanted o (bH ops V):=by
 cases c with
 | none=>rfl
 | some d=>unfold indep at b;rw [e] at b;simp only [zN,xG,bne_iff_ne,ne_eq] at b;exact pU b.1
theorem nt.put {b:di} {v:aq} {j:Nat} (h:nt P ops V H j) (g:indep ops b j):nt P ops (bZ V b v) H j:=by
 obtain ⟨o,t,a,d,c,e,f,l,m⟩:=h;obtain ⟨p,q⟩:=oL g c e;refine ⟨o,t,a,d,c,e,f,λi=>?_,by rw [cU];exact m⟩;rw [wanted_put g c] at i;rw [vT p,l i];cases b with
 | none=>rfl
 | some k=>
  have:k≠d:=by rintro rfl;exact q _ rfl f
  exact yH some (dQ this).symm
theorem nt.more (h:nt P ops V H a) (ext:AH):nt P ops V (H++ext) a:=by obtain ⟨o,t,b,d,c,e,f,g,i⟩:=h;exact ⟨o,t,b,d,c,e,f,λj=>qD (g j) ext,i⟩
theorem dY (f:h[a]? =H[a]? \/∃C sz c d,H[a]? =some (.row C sz c)/\h[a]? =some (.row C sz d)):cV P t (.pointer (some ⟨a,b,none⟩)) h=cV P t (.pointer (some ⟨a,b,none⟩)) H:=by
 simp only [cV];rcases f with e|⟨C,sz,c,d,g,i⟩;rw [e]
 grind
end
section
variable {X:Nat->Prop} {D E:aH} {M J:Nat->Prop} {H h:AH} {ω ω':Nat->Option Loc} {P:aB} {A:An} {fl an:Nat} {τ τ':TF} {l s l' s':ae} {callV:V.Callee} {V:aQ} {callT:Tc} {ops:Array Oper}
theorem p9 {b:Operand->aq} {o:Oper} (h:∀f args a,o.op≠ .call {callee:=.value f,args:=args,argTypes:=a}) (H:AH):kF P callV b o H=fF P b o H:=by
 have ⟨g,d,i,pos,e,guard⟩:=o;cases d with
 | call c=>
  have ⟨callee,args,a⟩:=c;cases callee with
  | value f=>simp_all
  | _=>rfl
 | _=>rfl
theorem Cx (h:Ir P x=some a):∃c b,x= .v (.func (.func a) c b)/\(c.isEmpty&&b.isEmpty&&eD P a)/\a<1000:=by
 unfold Ir at h;split at h;split at h
 simp_all
 cases h;cases h
theorem zz (b1:fj P A callT callV) (m:St X D ω fl H τ l s V) {o:Oper} (C:∀k,o.dst=some k->k<V.length) (p:kN o) {r:TS} (d:dC P A callT an fl o τ l s=some r):
  ∃v h E ω',kF P callV (ev V) o H=some (v,h)/\St X E ω' fl h (dT r.2.1 o.dst r.1) r.2.2.1 r.2.2.2 (bZ V o.dst v)/\Xt X fl D ω H l s E ω' h r.2.2.1 r.2.2.2/\
   (qf o=true->∀g y sz c,l[g]? =some (.row y sz)->D false g 0=some c->h[c]? =H[c]?)/\
   (mB A an τ o=true->∀g M k c,s[g]? =some M->M.az=some k->D true g k=some c->h[c]? =H[c]?):=by
 by_cases z:∃f args j,o.op= .call {callee:=.value f,args:=args,argTypes:=j};have ⟨f,args,j,L⟩:=z;have ⟨c6,op,c9,pos,c5,guard⟩:=o;simp only at L;subst L;simp only [dC] at d;split at d;rename_i K hK;have ⟨a,b,F,n,c7⟩:=Cx hK;split at d;rename_i c3;obtain ⟨c8,hp,rfl⟩:=map_some d;have R:∀x∈args.toList,pF x:=λx hx=>jM p (by simp [Op.operands,Call.operands,Array.mem_toList_iff.1 hx]);have c4:real (K+1000*an)=K:=by unfold real;omega
 have b2:eD P (real (K+1000*an)):=by rw [c4];simp at n;exact n.2
 have ⟨v,h,E,ω',N,q,t,w,q5⟩:=bV.call b1 m C R c3 hp b2;have c2:ev V f= .func (.func K) a b:=by have b6:pF f:=jM p (by simp [Op.operands,Call.operands]);have:=av m b6;rw [F] at this;exact this.vv
 refine ⟨v,h,E,ω',?_,q,t,λ_ g y sz c g1 g2=>w g _ 0 c g1 rfl g2,λi=>q5 ?_⟩;simp only [kF,c2,n,if_true]
 simp_all
 simp only [mB,F] at i
 grind
 cases d;cases d;have J:=λf args j e=>z ⟨f,args,j,e⟩;have ⟨v,h,E,ω',N,q,t,w⟩:=qa m C p J d;refine ⟨v,h,E,ω',by rw [p9 J];exact N,q,t,w,λi=>?_⟩;unfold mB at i;split at i
 simp_all
 cases i
structure zi (ops:Array Oper) (n:Nat):Prop where
 ok:∀(j:Nat) (o:Oper),ops[j]? =some o->kN o
 dst:∀(j:Nat) (o:Oper),ops[j]? =some o->∀k,o.dst=some k->k<n
theorem oI {x:Option TO} (h:isRow x):∃a sz,x=some (.row a sz):=by
 unfold isRow at h;split at h
 simp_all
 cases h
theorem vQ {x:Option TO} (h:El a x):∃sz b,x=some (.aY a sz b):=by
 unfold El at h;split at h
 simp_all
 cases h
theorem Am (C:St X D ω fl H τ l s V) {o e:Oper} {a:Operand} (L:o.op= .load t a) (F:pF a) (b:uS A an τ l s o e)
  (M:Xt X fl D ω H l s E ω' h l' s')
  (J:qf e->∀d n sz f,l[d]? =some (.row n sz)->D false d 0=some f->h[f]? =H[f]?)
  (z:mB A an τ e->∀d m k f,s[d]? =some m->m.az=some k->D true d k=some f->h[f]? =H[f]?)
  (w:∀r d m k f,FE (Nk an τ e) r d->(ob l s r)[d]? =some m->m.az=some k->D r d k=some f->h[f]? =H[f]?):cV P t (ev V a) h=cV P t (ev V a) H:=by
 have c:=av C F;unfold uS at b;rw [L] at b;simp only [tq] at b;split at b;rename_i d x j;rw [j] at c;simp at b;have ⟨n,sz,g⟩:=oI b.2;generalize ev V a=v at c;cases c with
 | p i=>rcases b.1 with q|q;exact dY (.inl (J q _ _ _ _ g i));exact dY (.inl (w false _ _ 0 _ q g rfl i))
 rename_i n x j;rw [j] at c;generalize ev V a=v at c;cases c with
 | pe y K hl R hh=>have ⟨b1,g⟩:=M.aM _ _ _ _ y K;exact dY (.inr ⟨_,_,_,_,y,g⟩)
 rename_i d x j;rw [j] at c;simp at b;have ⟨n,sz,g⟩:=oI b.2;generalize ev V a=v at c;cases c with
 | p i=>rcases b.1 with q|q;exact dY (.inl (z q _ _ 0 _ g rfl i));exact dY (.inl (w true _ _ 0 _ q g rfl i))
 rename_i d k b2 b6 x j;rw [j] at c;simp at b;have ⟨sz,N,g⟩:=vQ b.2;generalize ev V a=v at c;cases c with
 | q i=>rcases b.1 with q|q;exact dY (.inl (z q _ _ k _ g rfl i));exact dY (.inl (w true _ _ k _ q g rfl i))
 cases b
theorem Hq {o:Oper} (b:kN o) {a:Operand} (c:o.op= .load t a):pF a:=jM b (by simp [c,Op.operands])
theorem p8 {c:Operand->aq} {o:Oper} {a:Operand} (b:o.op= .load t a) (H:AH):fF P c o H=(cV P t (c a) H).map λv=>(v,H):=by have ⟨e,f,g,pos,d,guard⟩:=o;simp only at b;subst b;rfl
theorem sP (w:St X D ω fl H τ l s V) {e:Oper} (b6:kN e) {rr:TS} (f:dC P A callT an fl e τ l s=some rr) (hv:kF P callV (ev V) e H=some (u,h)) {r:Bool} {M:TO}
  (g:FE (Nk an τ e) r a) (L:(T.ob l s r)[a]? =some M) (K:M.az=some b) (J:D r a b=some c):h[c]? =H[c]? :=by
 have ⟨c7,op,d1,pos,c6,guard⟩:=e;cases op <;> (try (cases g;done))
 case store c4 i c5=>
  have b2:pF i:=jM b6 (by simp [Op.operands]);have k:=av w b2;have ⟨H1,j,R⟩:=map_some (show (fD P c4 (ev V i) (ev V c5) H).map _=some (u,h) from hv);cases R;have t:Nat.ble an 1:=by
   cases t:Nat.ble an 1 with
   | true=>rfl
   | false=>simp [Nk,t,FE] at g
  have c2:∃n y p,cI n fl y l s (aS τ i)=some p:=by
   have b1:an=0\/an=1:=by have:=yN t;omega
   rcases b1 with rfl|rfl;simp only [dC] at f;split at f;have ⟨p,d,_⟩:=map_some f;grind;cases f;simp only [dC] at f;split at f;have ⟨p,d,_⟩:=map_some f;grind;cases f
  have ⟨n,y,p,d⟩:=c2;have set:∀{F v:Nat},ev V i= .pointer (some ⟨F,v,none⟩)->F≠c->h[c]? =H[c]? :=by
   intro F v m c8;rw [m] at j;simp only [fD] at j;split at j;split at j
   grind
   cases j;cases j
  simp only [Nk,t,cond_true] at g;unfold cI at d;split at d;rename_i r' c3 v m;rw [m] at g k;split at d;rename_i cs sz E;split at d;rename_i o;generalize z:ev V i=N at k;cases k with
  | p C=>refine set z ((w.ne E L rfl K C J o.1 λx=>?_).symm);obtain ⟨rfl,rfl⟩:=x;simp [FE] at g
  cases d;cases d;rename_i r' c3 d2 c9 sz v m;rw [m] at g k;split at d;rename_i k' d3 es E;split at d;rename_i o;generalize z:ev V i=N at k;cases k with
  | q C=>obtain ⟨rfl,_,o⟩:=o;refine set z ((w.ne E L rfl K C J o.1 λx=>?_).symm);obtain ⟨rfl,rfl⟩:=x;simp [FE] at g
  cases d;cases d;cases d
theorem Cm {o:Oper} (h:XL P o (aS τ) l s=some x):(∀f args k,o.op≠ .call {callee:=.value f,args:=args,argTypes:=k})/\dC P A (λ_ _ _ _=>none) 0 fl o τ l s=some (x,τ,l,s):=by
 have ⟨z,w,H,pos,y,guard⟩:=o;cases w <;> simp only [XL] at h <;> (try (cases h;done))
 case load t a=>split at h;rename_i g n q;refine ⟨λ_ _ _ e=>(by cases e),?_⟩;simp only [dC,q,h,zM,Nat.beq,cond_false];cases h
 case slice t j D C E=>exact ⟨λ_ _ _ e=>(by cases e),by simp only [dC,h,zM]⟩
 case lookup t j i F=>exact ⟨λ_ _ _ e=>(by cases e),by simp only [dC,h,zM]⟩
 case convert a d j=>exact ⟨λ_ _ _ e=>(by cases e),by simp only [dC,h,zM]⟩
 case call c=>
  have ⟨callee,args,k⟩:=c;cases callee with
  | builtin b=>cases b <;> simp only at h <;> (try (cases h;done));refine ⟨λ_ _ _ e=>(by cases e),?_⟩;split at h;rename_i j t p v;simp only [dC,p,v,h,zM];cases h
  | value f=>cases h
  | invoke r m=>cases h
theorem A5 (t:zi ops V.length) (R:St X D ω fl H τ l s V) {e:Oper} {w:aA} (hp:∀a∈w,nt P ops V H a) {l1:ae} {y:TF}
  (i:St X E ω' fl h y l1 r (bZ V e.dst u)) (hx:Xt X fl D ω H l s E ω' h l1 r)
  (hf:qf e->∀f L sz c,l[f]? =some (.row L sz)->D false f 0=some c->h[c]? =H[c]?)
  (hr:mB A an τ e->∀f m k c,s[f]? =some m->m.az=some k->D true f k=some c->h[c]? =H[c]?)
  (hy:∀x f m k c,FE (Nk an τ e) x f->(ob l s x)[f]? =some m->m.az=some k->D x f k=some c->h[c]? =H[c]?)
  (K:w.contains a->indep ops e.dst a) (b:sw P A ops fl w e an τ l s y l1 r a):vy P ops (bZ V e.dst u) h a:=by
 unfold sw at b;unfold vy;cases j:ops[a]? with
 | none=>simp_all
 | some o=>
  rw [j] at b;simp only at b ⊢;cases p:jo ops y o with
  | none=>rw [p] at b;cases b
  | some wb=>cases wb with
  | false=>rw [iI i p];rfl
  | true=>
   rw [p] at b;simp only [Vf] at b;rw [iI i p];split at b;rename_i d n;have b2:=t.dst a o j d n;have F:d<(bZ V e.dst u).length:=by rw [cU];exact b2
   simp;simp only [Bool.or_eq_true,zN] at b;rcases b with ⟨⟨g,M⟩,N⟩|g;have c2:=hp a (List.contains_iff_mem.1 g);obtain ⟨m,c4,z,d',C,q,e3,e4,e5⟩:=c2.put (K g);rw [j] at C;cases C;rw [n] at e3;cases e3;have c3:=iI i p;have e4:=e4 c3;have b1:=Hq (t.ok a o j) q;have hq:=Am (P:=P) R q b1 M hx hf hr hy;have J:ev (bZ V e.dst u) z=ev V z:=vT (oL (K g) j q).1;rw [J] at e4;have:fF P (ev (bZ V e.dst u)) o h=some ((bZ V e.dst u).getD d undef,h):=by rw [p8 q,J,hq,e4];rfl
   rw [this,n];simp;exact ⟨F,JS (i.tm d) N⟩;unfold Io at g;split at g;rename_i c5 v;obtain ⟨b6,v⟩:=Cm (A:=A) v;have ⟨v',H2,c6,c7,q1,q2,q3,_⟩:=qa i (λk hk=>by simp_all) (t.ok a o j) b6 v;rw [q1,n];simp;refine ⟨F,Gl g ?_ ((i.tm d).mono q3.le)⟩;have:=q2.tm d;simp only [n,dT,aG,Nat.beq_refl,cond_true,bZ] at this
   grind
   cases g;cases b
theorem mZ {o:Oper} (h:oJ ops o):∃t a d,o.op= .load t a/\o.dst=some d/\a≠ .tmp d/\(o.looksAt ops).contains d=false:=by
 unfold oJ at h;split at h;rename_i t a d b c;simp only [xG] at h;refine ⟨_,_,_,b,c,?_,h⟩;rintro rfl;have:d∈o.looksAt ops:=by unfold Oper.looksAt;apply List.mem_append_left _;rw [List.mem_filterMap];exact ⟨.tmp d,by simp [b,Op.operands],rfl⟩
 simp_all
 cases h
theorem uQ (c3:fj P A callT callV) (F:zi ops V.length) {x:RS} (n:St X D ω fl H x.τ x.l x.s V) (z:∀j∈x.pd,nt P ops V H j) {p:Nat×aA} {l:RS} (g:jC P A callT a b fl ops p x=some l):
  ∃V' h E ω',oc P callV ops p (V,H)=some (V',h)/\St X E ω' fl h l.τ l.l l.s V'/\Xt X fl D ω H x.l x.s E ω' h l.l l.s/\(∀j∈l.pd,nt P ops V' h j)/\V'.length=V.length:=by
 unfold jC at g;unfold oc;cases v:ops[p.1]? with
 | none=>simp_all
 | some o=>
  rw [v] at g;simp only at g ⊢;have K:=F.dst _ o v;have b6:=F.ok _ o v;split at g;rename_i N;unfold VY at N;simp only [zN] at N;have ⟨c8,d7⟩:=N;have L:=λj c=>zT.1 c8 j c;have R:∀j∈GX P p x.pd o,j∈x.pd:=by
   intro j c;unfold GX at c;cases q:(cls P o==3) with
   | true=>simp_all
   | false=>simp_all
  split at g;cases g;rename_i hw;have d1:=iI n hw;rw [d1];cases g;refine ⟨_,_,D,ω,rfl,n.put K (.tu rfl λj x d5 hx=>by simp at hx) oy,Xt.refl,λj c=>?_,cU _ _ _⟩;have d3:∀j∈GX P p x.pd o,nt P ops (bZ V o.dst undef) H j:=λj c=>(z j (R j c)).put (L j c);have c:=c;unfold Jk at c;cases s:oJ ops o with
  | false=>simp_all
  | true=>
   rw [s] at c;simp at c;rcases c with rfl|c;have ⟨t,m,d,w,r,c7,b2⟩:=mZ s;refine ⟨o,t,m,d,v,w,r,λc2=>?_,by rw [cU];grind⟩;rw [r] at c2;simp only [bZ,pU b2] at c2
   simp_all
   grind
  rename_i hw;rw [iI n hw];simp only [if_true];split at g;cases g;rename_i e6 f1 l1 s1 hs;have ⟨b1,h,E,ω',C,q2,q3,q4,q5⟩:=zz c3 n K b6 hs;rw [C];simp only;split at g;rename_i J;cases g;have J:=λj c=>zT.1 J j c;have hr:∀j∈p.2,vy P ops (bZ V o.dst b1) h j:=by
   intro j c;refine A5 F n z q2 q3 q4 q5 (λd8 b o' d2 d9=>sP n b6 hs C) (λhc=>L j ?_) (J j c);unfold GX;cases q:(cls P o==3) with
   | true=>simp_all
   | false=>simp_all
  rw [zP (zT.2 hr)];have d3:∀j∈GX P p x.pd o,nt P ops (bZ V o.dst b1) h j:=by
   intro j c;cases q:(cls P o==3) with
   | true=>
    have c5:=c;unfold GX at c;rw [q] at c;simp at c;have ⟨oj,t,m,d,e1,e2,e3,e4,e5⟩:=z j (R j c5);have k:=hr j c.1;unfold vy at k;rw [e1] at k;simp only at k;refine ⟨oj,t,m,d,e1,e2,e3,λc9=>?_,by rw [cU];exact e5⟩;rw [c9,p8 e2,e3] at k;simp only [Bool.not_true,Bool.false_or] at k;cases hl:cV P t (ev (bZ V o.dst b1) m) h with
    | none=>simp_all
    | some d4=>rw [hl] at k;simp only [zM,zN] at k;rw [BF k.2]
   | false=>
    have M:∀f args y,o.op≠ .call {callee:=.value f,args:=args,argTypes:=y}:=by intro f args y e;unfold cls at q;rw [e] at q;simp at q
    have i:=C;rw [p9 M] at i;have c4:∃ext,h=H++ext:=by
     have c6:cls P o=0\/cls P o=1\/cls P o=2\/cls P o=3:=by unfold cls;split <;> (try split) <;> simp
     rcases c6 with e|e|e|e;exact ⟨[],by rw [(p7 e i).1];simp⟩;exact ⟨[],by rw [(fw e i).1];simp⟩;have ⟨mk,cs,sz,_,d6,_⟩:=fy e i
     simp_all
     simp_all
    obtain ⟨ext,rfl⟩:=c4;exact ((z j (R j c)).put (L j c)).more ext
  refine ⟨_,_,E,ω',rfl,q2,q3,λj c=>?_,cU _ _ _⟩;have c:=c;unfold Jk at c;cases s:oJ ops o with
  | false=>simp_all
  | true=>
   rw [s] at c;simp at c;rcases c with rfl|c;have ⟨t,m,d,w,r,c7,b2⟩:=mZ s;have M:∀f args y,o.op≠ .call {callee:=.value f,args:=args,argTypes:=y}:=λf args y e=>by simp_all
   have i:=C;rw [p9 M] at i;have hH:=(fw (by simp [cls,w]) i).1;rw [p8 w] at i;have ⟨d4,g1,g2⟩:=map_some i;rw [hH] at g2 ⊢;cases g2;refine ⟨o,t,m,d,v,w,r,λ_=>?_,by rw [cU];grind⟩;rw [vT (λd2 hk=>by simp_all),g1,r];simp only [bZ,zG,zF (K d r),Option.getD_some]
   grind
  cases g;cases g
end
def mL (c:Nat) (b:aH):aH:=λr a k=>bif r then b true a k else bif Nat.blt a c then b false a k else none
def qd (n:Nat):Code->Bool
 | .region _ e _=>e.toList.all λo=>kN o&&(match o.dst with|some d=>Nat.blt d n|none=>true)
 | .seq a b=>qd n a&&qd n b
 | .cond c a b=>pF c&&qd n a&&qd n b
 | .block _ c=>qd n c
 | .loop c=>qd n c
 | _=>true
section
variable {X:Nat->Prop} {D E:aH} {M J:Nat->Prop} {H h:AH} {ω ω':Nat->Option Loc} {P:aB} {A:An} {fl n0:Nat} {τ τ':TF} {l s l' s':ae} {callV:V.Callee} {V:aQ} {callT:Tc} {ops:Array Oper} {Pl:cQ} {L K:Nat}
theorem rT (h:mL n0 D q a b=some c):D q a b=some c/\(q=false->a<n0):=by
 cases q with
 | true=>exact ⟨h,λe=>by cases e⟩
 | false=>
  simp only [mL,cond_false] at h;cases d:Nat.blt a n0 with
  | false=>simp_all
  | true=>simp_all
theorem iu (hid:q=false->a<n0):mL n0 D q a b=D q a b:=by
 cases q with
 | true=>rfl
 | false=>
  have:Nat.blt a n0:=by simpa using hid rfl
  simp only [mL,cond_false,this,cond_true]
theorem TR.rb (h:TR D M H x v) (d:∀v,J v->M v) (f:T.rb n0 x):TR (mL n0 D) J H x v:=by
 have b:∀a k g,D true a k=some g->mL n0 D true a k=some g:=λa k g e=>e;cases x with
 | u=>exact .u
 | ag o=>
  cases h with
  | ag t h=>exact .ag t λj x c l s=>(h j x c l s).cH d b (cO f l)
 | tu o=>cases f
 | p r a n=>
  cases r with
  | true=>exact h.cH d b rfl
  | false=>
   cases h with
   | p e=>exact .p (by rw [iu λ_=>by simpa [T.rb] using f];exact e)
 | q r a k i z n=>
  cases r with
  | true=>exact h.cH d b rfl
  | false=>
   cases h with
   | q e=>exact .q (by rw [iu λ_=>by simpa [T.rb] using f];exact e)
 | m r a k i z n=>
  cases r with
  | true=>exact h.cH d b rfl
  | false=>
   cases h with
   | m e=>exact .m (by rw [iu λ_=>by simpa [T.rb] using f];exact e)
 | _=>exact h.cH d b rfl
theorem OR.cut {r:Bool} {o:TO} (h:OR D M ω H q r a o) (w:∀v,J v->M v) (hid:r=false->a<n0):OR (mL n0 D) J ω H q r a o:=by
 have t:∀a k b,D true a k=some b->mL n0 D true a k=some b:=λa k b e=>e;cases o with
 | row E sz=>obtain ⟨s,b,C,g,l,f,d,m⟩:=h;exact ⟨s,b,C,by rw [iu hid];exact g,l,⟨f.1,λj x c y A=>(f.2 j x c y A).cH w t (cO s y)⟩,d,m⟩
 | aY k sz z=>obtain ⟨b,C,g,l,f,d,m,F⟩:=h;refine ⟨b,C,by rw [iu hid];exact g,l,f,⟨d.1,d.2.1,λi j e x c n p e3=>(d.2.2 i j e x c n p e3).cH w t (iO (fi (d.1 e (zI n)).2 p))⟩,m,λL K=>?_⟩;rw [iu hid];grind
 | mp z cl=>obtain ⟨b,g,l,f,d⟩:=h;exact ⟨b,by rw [iu hid];exact g,l,f,d⟩
 | dead=>trivial
theorem Mu.cut (h:Mu X (mL n0 D) (l.take n0) s a):Mu X D l s a:=by
 rcases h with h|⟨r,c,o,k,b,d,e⟩;exact .inl h;refine .inr ⟨r,c,o,k,?_,d,(rT e).1⟩;cases r with
 | true=>exact b
 | false=>have b:(l.take n0)[c]? =some o:=b;rw [zS] at b;split at b;exact b;cases b
theorem St.cut (h:St X D ω fl H τ l s V) (m:∀t,(τ' t=τ t\/τ' t= .u)/\T.rb n0 (τ' t)):St X (mL n0 D) ω fl H τ' (l.take n0) s V:=by
 refine ⟨λt=>?_,λt=>?_,λr b o g=>?_,h.lt,λr b k y x=>?_,h.mJ,h.xl,h.xo⟩;obtain ⟨e,f⟩:=m t;rcases e with e|e;rw [e] at f ⊢;exact (h.tm t).rb (λv=>Mu.cut) f;rw [e];exact .u;rcases (m t).1 with e|e;rw [e];exact h.ow t;rw [e];intro i j z a n p;cases i <;> cases j <;> simp [eG,iG] at p;cases r with
 | true=>exact (h.ob true b o g).cut (λv=>Mu.cut) (λe=>by cases e)
 | false=>have c:(l.take n0)[b]? =some o:=g;rw [zS] at c;split at c;rename_i hid;exact (h.ob false b o c).cut (λv=>Mu.cut) (λ_=>hid);cases c
 obtain ⟨q,A⟩:=rT x;obtain ⟨d,w⟩:=h.fA r b k y q;refine ⟨?_,w⟩;cases r with
 | true=>exact d
 | false=>
  have d:b<l.length:=d;show b<(l.take n0).length
  grind
theorem oh:∀(b:aA) (t:Nat),eg b (b.map τ) t=τ t\/eg b (b.map τ) t= .u:=by
 intro b t;induction b with
 | nil=>exact .inr rfl
 | cons a b c=>
  simp only [yS,eg];cases d:Nat.beq t a with
  | true=>simp_all
  | false=>exact c
theorem GP:∀{a:ao},Ji n0 a->∀x∈a,T.rb n0 x:=by
 intro a;induction a with
 | nil=>simp_all
 | cons y a c=>
  intro h x b;simp only [Ji,zN] at h
  grind
theorem DM:∀(c:aA) (b:ao) (t:Nat),eg c b t∈b\/eg c b t= .u:=by
 intro c;induction c with
 | nil=>intro b t;exact .inr (by unfold eg;rfl)
 | cons a c d=>
  intro b t;cases b with
  | nil=>exact .inr rfl
  | cons x b=>
   simp only [eg]
   grind
theorem St.less (h:St X D ω fl H τ l s V) (b:∀t,τ' t=τ t\/τ' t= .u):St X D ω fl H τ' l s V:=by refine ⟨λt=>?_,λt=>?_,h.ob,h.lt,h.fA,h.mJ,h.xl,h.xo⟩;rcases b t with e|e;rw [e];exact h.tm t;rw [e];exact .u;rcases b t with e|e;rw [e];exact h.ow t;rw [e];intro i j d a n c;cases i <;> cases j <;> simp [eG,iG] at c
theorem ss (p:fj P A callT callV):∀(d:List (Nat×aA)) (x b:RS) (V:aQ) (H:AH) (D:aH) (ω:Nat->Option Loc),zi ops V.length->St X D ω fl H x.τ x.l x.s V->(∀j∈x.pd,nt P ops V H j)->dR P A callT K a fl ops d x=some b->
  ∃V' h E ω',eE P callV ops d (V,H)=some (V',h)/\St X E ω' fl h b.τ b.l b.s V'/\Xt X fl D ω H x.l x.s E ω' h b.l b.s/\V'.length=V.length:=by
 intro d;induction d with
 | nil=>intro x b V H D ω f e g c;cases c;exact ⟨V,H,D,ω,rfl,e,Xt.refl,rfl⟩
 | cons b1 ps q=>intro x b V H D ω f e g c;simp only [dR] at c;have ⟨y,n,o⟩:=zQ.1 c;have ⟨l,i,L,N,r,s,t,v,w⟩:=uQ p f e g n;have ⟨m,k,M,R,z,C,F,J⟩:=q y b l i L N (by simp_all) s v o;refine ⟨m,k,M,R,?_,C,t.trans F,J.trans w⟩;simp only [eE,r,zR];exact z
def Nf (X:Nat->Prop) (fl:Nat) (D:aH) (ω:Nat->Option Loc) (H:AH) (l s:ae) (V:aQ) (z:Option (Exit×aQ×AH)) (r:TE):Prop:=
 ∃V' h E ω',z=some (r.1,V',h)/\St X E ω' fl h r.2.1 r.2.2.1 r.2.2.2 V'/\Xt X fl D ω H l s E ω' h r.2.2.1 r.2.2.2/\V'.length=V.length
theorem CC (h:St X D ω fl H τ l s V) {c:Operand} (d:pF c) (a:CD (aS τ c)=some q):ev V c= .bool q:=by have:=av h d;unfold CD at a;split at a;rename_i b e;cases a;rw [e] at this;exact this.vv;cases a
theorem A7 {y:ao->ae->ae->Option TE} {z:aQ->AH->Option (Exit×aQ×AH)} {g:aA}
  (A:∀(c:ao) (l s:ae) (V:aQ) (H:AH) (D:aH) (ω:Nat->Option Loc) (r:TE),V.length=b->St X D ω fl H (eg g c) l s V->y c l s=some r->Nf X fl D ω H l s V (z V H) r):
  ∀(k:Nat) (c:ao) (l s:ae) (V:aQ) (H:AH) (D:aH) (ω:Nat->Option Loc) (r:TE),V.length=b->l.length<=a->St X D ω fl H (eg g c) l s V->jD y g a k c l s=some r->Nf X fl D ω H l s V (pg z k V H) r:=by
 intro k;induction k with
 | zero=>intro c l s V H D ω r j N h d;cases d
 | succ k ih=>
  intro c l s V H D ω r j N h d;simp only [jD] at d;split at d;rename_i F l1 C L;split at d;rename_i R;have ⟨p,i,x,o,v,w,f,n⟩:=A c l s V H D ω _ j h L;have M:=w.cut λt=>⟨oh g t,by rcases DM g (g.map F) t with e|e;exact GP R _ e;rw [e];rfl⟩
  have hx:Xt X fl D ω H l s (mL a x) o i (l1.take a) C:=by refine ⟨λr q k E m=>?_,f.len,f.same,f.aM,λb1 m=>f.mu b1 (Mu.cut m),f.Bm⟩;rw [iu λP=>?_];exact f.qp r q k E m;have:=(h.fA r q k E m).1;rw [P] at this;have:q<l.length:=this;omega
  have ⟨K,J,b2,b6,r1,r2,r3,r4⟩:=ih _ _ _ p i _ o r (n.trans j) W M d;refine ⟨K,J,b2,b6,?_,r2,hx.trans r3,r4.trans n⟩;simp only [pg,v];exact r1;cases d;rename_i c2;have ⟨p,i,x,o,v,w,f,n⟩:=A c l s V H D ω _ j h d;refine ⟨p,i,x,o,?_,w,f,n⟩;simp only [pg,v];split;rename_i e;have ⟨ex,F,l1,C⟩:=r
  simp_all
  rfl
theorem Af (c3:fj P A callT callV):∀(c:Code) (p:Nat) (τ:TF) (l s:ae) (V:aQ) (H:AH) (D:aH) (ω:Nat->Option Loc) (r:TE),qd a c->V.length=a->St X D ω fl H τ l s V->bN P A Pl callT L K fl p c τ l s=some r->Nf X fl D ω H l s V (dh P Pl callV L (real K) c V H) r:=by
 intro c;induction c with
 | skip=>intro p τ l s V H D ω r d g f b;cases b;exact ⟨V,H,D,ω,rfl,f,Xt.refl,rfl⟩
 | region M ops c7=>
  intro p τ l s V H D ω r d g f b;simp only [bN] at b;obtain ⟨c9,x,rfl⟩:=map_some b;simp only [qd,zT,zN] at d;have hO:zi ops V.length:=by refine ⟨λb2 o ho=>(d o (by grind)).1,λb2 o ho c8 hk=>?_⟩;have:=(d o (by grind)).2;rw [hk] at this;rw [g];simpa using this
  have ⟨V',h,E,ω',j,k,m,i⟩:=ss c3 _ _ _ V H D ω hO f (λb2 hj=>by cases hj) x;exact ⟨V',h,E,ω',by simp only [dh,j,zM],k,m,i⟩
 | seq b6 c2 C N=>
  intro p τ l s V H D ω r d g f b;simp only [bN] at b;simp only [qd,zN] at d;split at b;rename_i J l1 F x;have ⟨q,n,v,w,j,k,m,i⟩:=C _ _ _ _ V H D ω _ d.1 g f x;have ⟨V2,H2,c5,c6,r1,r2,r3,r4⟩:=N _ _ _ _ q n v w _ d.2 (i.trans g) k b;exact ⟨V2,H2,c5,c6,by simp only [dh,j];exact r1,r2,m.trans r3,r4.trans i⟩;rename_i b1;have ⟨q,n,v,w,j,k,m,i⟩:=C _ _ _ _ V H D ω _ d.1 g f b;refine ⟨q,n,v,w,?_,k,m,i⟩;simp only [dh,j];split;rename_i e;have ⟨ex,J,l1,F⟩:=r
  simp_all
  rfl
 | cond c b6 c2 C N=>
  intro p τ l s V H D ω r d g f b;simp only [bN] at b;simp only [qd,zN] at d;split at b;rename_i t y;have R:=CC f d.1.1 y;cases t with
  | true=>have ⟨q,n,v,w,j,k,m,i⟩:=C _ _ _ _ V H D ω _ d.1.2 g f b;exact ⟨q,n,v,w,by simp only [dh,R,if_true];exact j,k,m,i⟩
  | false=>have ⟨q,n,v,w,j,k,m,i⟩:=N _ _ _ _ V H D ω _ d.2 g f b;exact ⟨q,n,v,w,by simp only [dh,R,xA,if_false];exact j,k,m,i⟩
  cases b
 | block M c z=>
  intro p τ l s V H D ω r d g f b;simp only [bN] at b;simp only [qd] at d;split at b;rename_i c4 J l1 F x;have ⟨q,n,v,w,j,k,m,i⟩:=z _ _ _ _ V H D ω _ d g f x;cases y:Nat.beq c4 M with
  | true=>rw [y] at b;cases b;exact ⟨q,n,v,w,by simp only [dh,j];simp_all,k,m,i⟩
  | false=>rw [y] at b;cases b;exact ⟨q,n,v,w,by simp only [dh,j];rw [zO (Nat.ne_of_beq_eq_false y)],k,m,i⟩
  rename_i b1;have ⟨q,n,v,w,j,k,m,i⟩:=z _ _ _ _ V H D ω _ d g f b;refine ⟨q,n,v,w,?_,k,m,i⟩;simp only [dh,j];split;rename_i e;have ⟨ex,J,l1,F⟩:=r;simp at e;exact absurd (by rw [b,e.1]) (b1 _ J l1 F);rfl
 | loop c z=>intro p τ l s V H D ω r d g f b;simp only [bN] at b;simp only [qd] at d;have h0:St X D ω fl H (eg (A.lv K p) ((A.lv K p).map τ)) l s V:=f.less λt=>oh _ t;have:=A7 (λts l s V H D ω r g f b=>z _ _ _ _ V H D ω r d g f b) L _ _ _ V H D ω r g (zC _) h0 b;simpa only [dh] using this
 | exit M=>intro p τ l s V H D ω r d g f b;cases b;exact ⟨V,H,D,ω,rfl,f,Xt.refl,rfl⟩
 | ret=>intro p τ l s V H D ω r d g f b;cases b;exact ⟨V,H,D,ω,rfl,f,Xt.refl,rfl⟩
 | _=>intro p τ l s V H D ω r d g f b;cases b
end
def dE:ResultVar->Nat
 | .tmp t=>t
 | .cell a _=>a
section
variable {X:Nat->Prop} {D E:aH} {M J:Nat->Prop} {H h:AH} {ω ω':Nat->Option Loc} {P:aB} {A:An} {fl n0:Nat} {τ τ':TF} {l s l' s':ae} {V V':aQ}
theorem St.congr (h:St X D ω fl H τ l s V) (a:∀t,V'.getD t undef=V.getD t undef):St X D ω fl H τ l s V':=
 ⟨λt=>by rw [a];exact h.tm t,λt=>by rw [a];exact h.ow t,h.ob,h.lt,h.fA,h.mJ,h.xl,h.xo⟩
theorem HP (h:a≠b):Nat.beq a b=false:=by
 cases c:Nat.beq a b with
 | false=>rfl
 | true=>simp_all
theorem St.ah (h:St X D ω fl H τ l s V) (f:Loc->Loc) (C:∀r b,f (.o r b)= .o r b) (A:∀r b j,f (.c r b j)= .c r b j)
  (z:∀t,TR D (Mu X D l s) H (τ' t) (V'.getD t undef))
  (w:∀t i j g a n,eG (τ' t) i j=some (.sl true g)->mi (V'.getD t undef) i j=some (.slice (some a) n 1)->(ω a.block).map f=some (.t t i j)/\Fr H a n):
  St X D (λv=>(ω v).map f) fl H τ' l s V'/\Xt X fl D ω H l s D (λv=>(ω v).map f) H l s:=by
 refine ⟨⟨z,w,λr b o q=>?_,λv F d=>?_,h.fA,h.mJ,h.xl,λv d=>by simp [h.xo v d]⟩,⟨λ_ _ _ _ e=>e,zC _,λv _ p=>⟨rfl,by simp [p]⟩,λ_ _ _ _ e _=>⟨_,e⟩,λ_ e=>.inl e,λ_ _=>rfl⟩⟩;have c:=h.ob r b o q;refine c.other (Le.refl _ _ _) (λk K m E=>⟨rfl,?_⟩) (λ_ _ _ _ _ _ e=>e) (λ_ a j e _=>⟨by grind,rfl⟩);obtain ⟨J,a1,a2⟩:=c.dH m
 grind
 cases y:ω v with
 | none=>grind
 | some x=>exact h.lt v x y
theorem jV {r:ResultVar} (c:dE r≠a):eI P fl (aG τ a x) l s r=(eI P fl τ l s r).map λp=>(p.1,aG p.2.1 a x,p.2.2):=by
 have d:∀t,t≠a->aG τ a x t=τ t:=by intro t b;have:=HP b;simp only [aG,this,cond_false]
 cases r with
 | tmp t=>
  have b:=c;simp only [eI,d t b,zM,dN];congr 2;refine Prod.ext ?_ rfl;funext f;simp only [aG];have h:Nat.beq t a=false:=HP b;cases g:Nat.beq f t with
  | true=>simp_all
  | false=>simp
 | cell e t=>have b:=c;simp only [eI];split;rw [d e b,Option.map_map];congr 1;rfl
theorem km {r:ResultVar} (c:dE r≠a):fE P (V.set a u) H r=fE P V H r:=by
 cases r with
 | tmp t=>have b:a≠t:=λe=>c e.symm;simp only [fE,dQ b]
 | cell d t=>have b:a≠d:=λe=>c e.symm;simp only [fE,dQ b]
theorem fS (h:St X D ω fl H τ l s V) {i:ResultVar} {d:Nat} (w:d<V.length) {j:TF} {l1:ae} (b:eI P fl τ l s i=some (x,j,l1,r)):
  ∃v ω',fE P V H i=some v/\St X D ω' fl H (aG j d x) l1 r (V.set d v)/\Xt X fl D ω H l s D ω' H l1 r:=by
 cases i with
 | tmp t=>simp only [eI] at b;cases b;have ⟨ω',c,f⟩:=h.move t (some d) (λk m=>by simp_all);exact ⟨_,ω',rfl,c,f⟩
 | cell a t=>simp only [eI] at b;split at b;rename_i g n p;have ⟨⟨y,ly,z⟩,o,e⟩:=map_some b;cases e;have ⟨v,ω',c,f,q⟩:=h.take p o (h.tm a) (some d) (λk m=>by simp_all);exact ⟨v,ω',c,f,q⟩;cases b
theorem St.one (h:St X D ω fl H τ l s V) (d:Nat):∃ω',St X D ω' fl H (aI [τ d]) l s [V.getD d undef]/\Xt X fl D ω H l s D ω' H l s:=by
 refine ⟨_,h.ah (λ| .t _ i j=>.t 0 i j|x=>x) (λ_ _=>rfl) (λ_ _ _=>rfl) (λt=>?_) λt i j e a n b c=>?_⟩;cases t with
 | zero=>exact h.tm d
 | succ t=>exact .u
 cases t with
 | zero=>
  obtain ⟨f,g⟩:=h.ow d i j e a n b c
  simp_all
 | succ t=>simp [aI,eG,iG] at b;grind
theorem St.XI (h:St X D ω fl H τ l s V) (f:aA) (g:Nat->Nat) (z:∀k d,f[k]? =some d->g d=k):∃ω',St X D ω' fl H (aI [.tu (f.map τ)]) l s [.tuple (f.map (V.getD · undef)).toArray]/\Xt X fl D ω H l s D ω' H l s:=by
 refine ⟨_,h.ah (λ| .t n _ j=>.t 0 (g n) j|x=>x) (λ_ _=>rfl) (λ_ _ _=>rfl) (λt=>?_) λt i j o a n b e=>?_⟩;cases t with
 | zero=>
  refine .tu Z λj x c m p=>?_;simp only [zJ,List.getElem?_toArray] at m p;cases q:f[j]? with
  | none=>simp_all
  | some d=>rw [q] at m p;cases m;cases p;exact h.tm d
 | succ t=>exact .u
 cases t with
 | zero=>
  have b:((f.map τ)[i]?).bind (λx=>iG x j)=some (.sl true o):=b;have e:((f.map (V.getD · undef)).toArray[i]?).bind (λx=>jt x j)=some (.slice (some a) n 1):=e;simp only [zJ,List.getElem?_toArray] at b e;cases q:f[i]? with
  | none=>simp_all
  | some d=>
   rw [q] at b e;simp only [zM,zR] at b e;have r:eG (τ d) 0 j=some (.sl true o):=by
    cases m:τ d with
    | tu y=>rw [m] at b;cases j <;> simp [iG] at b
    | _=>rw [m] at b;exact b
   have v:mi (V.getD d undef) 0 j=some (.slice (some a) n 1):=by
    generalize V.getD d undef=w at e ⊢;cases w with
    | tuple y=>cases j <;> simp [jt] at e
    | _=>exact e
   obtain ⟨A,C⟩:=h.ow d 0 j o a n r v
   grind
 | succ t=>simp [aI,eG,iG] at b;grind
theorem dx (V:aQ) (k t:Nat):(V++List.replicate k undef).getD t undef=V.getD t undef:=by
 simp;rcases zZ t V.length with a|a
 grind
 grind
theorem eW (V:aQ) (k:Nat) (r:ResultVar):fE P (V++List.replicate k undef) H r=fE P V H r:=by cases r <;> simp only [fE,dx]
theorem qM {τ:TF} (h:b≠a):aG τ a x b=τ b:=by simp only [aG,HP h,cond_false]
theorem Cl (h:St X D ω fl H τ l s V) {rs:List ResultVar} (b:uR P fl rs τ l s=some (x,r)):
  ∃v ω' l1,wh P rs V H=some v/\St X D ω' fl H (aI [x]) l1 r [v]/\Xt X fl D ω H l s D ω' H l1 r:=by
 unfold uR at b;unfold wh;split at b;cases b;have ⟨ω',m,n⟩:=h.XI [] (λ_=>0) (λc7 c6 e=>by simp at e)
 grind
 rename_i f;have ⟨⟨c,J,l1,C⟩,o,e⟩:=map_some b;cases e;have k:=h.congr (dx V 1);have ⟨v,c8,m,n,t⟩:=fS k (d:=V.length) Z o;have ⟨c5,g,p⟩:=n.one V.length;rw [cj] at g;rw [zG,zF Z] at g;rw [eW] at m;exact ⟨v,c5,l1,m,g,t.trans p⟩;rename_i f d;split at b;rename_i c J l1 C o;have ⟨⟨y,A,q,E⟩,N,e⟩:=map_some b;cases e;generalize hD:V.length+dE f+dE d+1=a;have k:=h.congr (dx V (dE f+dE d+3));generalize j:V++List.replicate (dE f+dE d+3) undef=i at k;have hl:i.length=V.length+dE f+dE d+3:=by rw [<-j];simp;omega
 have ⟨v,c8,m,n,t⟩:=fS k (d:=a) O o;have R:eI P fl (aG J a c) l1 C d=some (y,aG A a c,q,E):=by rw [jV O,N];rfl
 have ⟨w,c5,b2,b6,c2⟩:=fS n (d:=a+1) W R;rw [km O,<-j,eW] at b2;rw [<-j,eW] at m;have ⟨c9,g,p⟩:=b6.XI [a,a+1] (λb1=>b1-a) (λc7 c6 e=>by grind)
 have K:aG (aG A a c) (a+1) y a=c:=by rw [qM O,cj]
 have L:((i.set a v).set (a+1) w).getD a undef=v:=by rw [dQ O,zG,zF O];rfl
 have M:((i.set a v).set (a+1) w).getD (a+1) undef=w:=by rw [zG,zF W];rfl
 simp only [yS,xX,K,cj,L,M] at g;exact ⟨_,c9,q,by simp_all,g,(t.trans c2).trans p⟩;cases b;rename_i f d z;split at b;rename_i c J l1 C o;split at b;rename_i y A q E N;have ⟨⟨c3,c4,l3,s4⟩,h3,e⟩:=map_some b;cases e;generalize hD:V.length+dE f+dE d+dE z+1=a;have k:=h.congr (dx V (dE f+dE d+dE z+4));generalize j:V++List.replicate (dE f+dE d+dE z+4) undef=i at k;have hl:i.length=V.length+dE f+dE d+dE z+4:=by rw [<-j];simp;omega
 have ⟨v,c8,m,n,t⟩:=fS k (d:=a) O o;have R:eI P fl (aG J a c) l1 C d=some (y,aG A a c,q,E):=by rw [jV O,N];rfl
 have ⟨w,c5,b2,b6,c2⟩:=fS n (d:=a+1) W R;have d2:eI P fl (aG (aG A a c) (a+1) y) q E z=some (c3,aG (aG c4 a c) (a+1) y,l3,s4):=by rw [jV O,jV O,h3];rfl
 have ⟨F,c9,t1,t2,t3⟩:=fS b6 (d:=a+2) W d2;rw [km O,km O,<-j,eW] at t1;rw [km O,<-j,eW] at b2;rw [<-j,eW] at m;have ⟨d3,g,p⟩:=t2.XI [a,a+1,a+2] (λb1=>b1-a) (λc7 c6 e=>by grind)
 have K:aG (aG (aG c4 a c) (a+1) y) (a+2) c3 a=c:=by rw [qM O,qM O,cj]
 have d1:aG (aG (aG c4 a c) (a+1) y) (a+2) c3 (a+1)=y:=by rw [qM O,cj]
 have L:(((i.set a v).set (a+1) w).set (a+2) F).getD a undef=v:=by rw [dQ O,dQ O,zG,zF O];rfl
 have M:(((i.set a v).set (a+1) w).set (a+2) F).getD (a+1) undef=w:=by rw [dQ O,zG,zF W];rfl
 have g4:(((i.set a v).set (a+1) w).set (a+2) F).getD (a+2) undef=F:=by rw [zG,zF W];rfl
 simp only [yS,xX,K,d1,cj,L,M,g4] at g;exact ⟨_,d3,l3,by simp_all,g,((t.trans c2).trans t3).trans p⟩;cases b;cases b;cases b
end
def eH (b:Nat) (c:aH):aH:=λr a k=>bif r then bif Nat.blt a b then c true a k else none else none
section
variable {X:Nat->Prop} {D E:aH} {M J:Nat->Prop} {H h:AH} {ω ω':Nat->Option Loc} {P:aB} {A:An} {fl n0:Nat} {τ τ':TF} {l s l' s':ae} {V V':aQ} {Pl:cQ} {L:Nat}
theorem TR.Ha (h:TR D M H x u) (b:∀u,J u->M u) (a:∀f k g,D true f k=some g->E true f k=some g) (d:T.Ha x):TR E J H x u:=by
 cases x with
 | tu m=>
  cases h with
  | tu l h=>exact .tu l λj x c e i=>(h j x c e i).aW b a (mH d e)
 | _=>exact h.aW b a d
theorem St.out (h:St X D ω fl H τ l s V) (i:∀t,T.Ha (τ t)\/τ t= .u):St X (mL 0 D) ω fl H τ [] s V:=by
 have c:∀v,Mu X (mL 0 D) [] s v->Mu X D l s v:=λv b=>Mu.cut b;refine ⟨λt=>?_,h.ow,λr a o d=>?_,h.lt,λr a k f b=>?_,h.mJ,h.xl,h.xo⟩;rcases i t with e|e;exact (h.tm t).Ha c (λa k f e=>e) e;rw [e];exact .u;cases r with
 | true=>exact (h.ob true a o d).cut c (λe=>(by cases e))
 | false=>simp [T.ob] at d
 obtain ⟨g,j⟩:=rT b;cases r with
 | true=>exact h.fA true a k f g
 | false=>simp_all
theorem yv (h:eH n0 D q a b=some c):q/\a<n0/\D true a b=some c:=by
 cases q with
 | false=>cases h
 | true=>
  simp only [eH,cond_true] at h;cases d:Nat.blt a n0 with
  | false=>simp_all
  | true=>simp_all
theorem kj (hid:a<n0):eH n0 D true a b=D true a b:=by
 have:Nat.blt a n0:=by simpa using hid
 simp only [eH,cond_true,this]
theorem Mu.eH (h:Mu X (T.eH n0 D) [] (s.take n0) a):X a\/∃b o k,s[b]? =some o/\b<n0/\o.az=some k/\D true b k=some a:=by
 rcases h with h|⟨r,b,o,k,c,e,d⟩;exact .inl h;obtain ⟨rfl,hid,f⟩:=yv d;have c:(s.take n0)[b]? =some o:=c
 grind
theorem Mu.yu (h:Mu X (T.eH n0 D) [] (s.take n0) a):Mu X D l s a:=by rcases h.eH with h|⟨e,o,k,b,_,c,d⟩;exact .inl h;exact .inr ⟨true,e,o,k,b,c,d⟩
theorem Ig (h:a<fl):wr fl true a=false:=by
 cases b:wr fl true a with
 | false=>rfl
 | true=>
  have:fl<=a:=by simpa [wr] using b
  omega
theorem NU (h:fl<=a):wr fl true a:=by simpa [wr] using h
theorem St.AS (h:St X D ω fl H τ l s V) (e:Mu X (T.eH fl D) [] (s.take fl) a):ω a=none:=by rcases e.eH with f|⟨g,o,k,b,hid,c,d⟩;exact h.xo a f;obtain ⟨i,a1,a2⟩:=(h.ob true g o b).dH c;rw [d] at a1;cases a1;rw [a2,Ig hid];rfl
theorem mw (h:St X D ω fl H τ l s V) {v:aq} (a:jE fl s x=some y) (f:TR D (Mu X D l s) H x v):
  TR (eH fl D) (Mu X (eH fl D) [] (s.take fl)) H y v/\(∀z,y≠ .ag z)/\(∀z,y≠ .tu z)/\(∀A,y= .sl true A->x= .sl true A):=by
 have w:∀v,Mu X (eH fl D) [] (s.take fl) v->Mu X D l s v:=λv=>Mu.yu;unfold jE at a;split at a;cases a;refine ⟨?_,λ_ e=>(by cases e),λ_ e=>(by cases e),λ_ e=>(by cases e)⟩;cases f with|v n o=>exact .v n o
 cases a;refine ⟨?_,λ_ e=>(by cases e),λ_ e=>(by cases e),λ_ e=>e⟩;cases f with
 | sn=>exact .sn
 | s0=>exact .s0
 | se=>exact .se
 | sl n o C r E h6=>exact .sl n (λt=>o (w _ t)) C r E λi j e x c g k K=>(h6 i j e x c g k K).pK w (jh (r e (zI g)).2 k)
 cases a;refine ⟨?_,λ_ e=>(by cases e),λ_ e=>(by cases e),λ_ e=>(by cases e)⟩;cases f with
 | pe n o C r E=>exact .pe n (λt=>o (w _ t)) C r λj x c g k=>(E j x c g k).pK w (jh r g)
 rename_i d M;cases b:Nat.blt d fl with
 | false=>simp_all
 | true=>
  rw [b] at a;cases a;refine ⟨?_,λ_ e=>(by cases e),λ_ e=>(by cases e),λ_ e=>(by cases e)⟩;cases f with
  | p e=>exact .p ((kj (Zs b)).trans e)
 rename_i d b2 i sz M;cases b:Nat.blt d fl with
 | false=>simp_all
 | true=>
  rw [b] at a;cases a;refine ⟨?_,λ_ e=>(by cases e),λ_ e=>(by cases e),λ_ e=>(by cases e)⟩;cases f with
  | q e=>exact .q ((kj (Zs b)).trans e)
 rename_i d;cases b:Nat.blt d fl with
 | false=>simp_all
 | true=>
  rw [b] at a;cases a;refine ⟨?_,λ_ e=>(by cases e),λ_ e=>(by cases e),λ_ e=>(by cases e)⟩;cases f with
  | mp e=>exact .mp ((kj (Zs b)).trans e)
 rename_i d b2 M c2 sz;cases b:Nat.blt d fl with
 | true=>
  rw [b] at a;cases a;refine ⟨?_,λ_ e=>(by cases e),λ_ e=>(by cases e),λ_ e=>(by cases e)⟩;cases f with
  | m e=>exact .m ((kj (Zs b)).trans e)
 | false=>
  rw [b] at a;simp at a;have b1:fl<=d:=by rcases zZ d fl with e|e;rw [show Nat.blt d fl=true by simpa using e] at b;cases b;exact e
  split at a;rename_i k' c4 A ho;split at a;rename_i hc;obtain ⟨rfl,rfl,rfl,rfl,L⟩:=hc;cases a;refine ⟨?_,λ_ e=>(by cases e),λ_ e=>(by cases e),λ_ e=>(by cases e)⟩;have ⟨c3,b6,g,k,K,P,R,g6⟩:=h.ob true d _ ho;cases f with
  | m e=>
   rw [g] at e;cases e;rw [Nat.zero_mul];refine .sl k (λt=>?_) O (λe he=>?_) (λe=>(by cases e)) λi j e x c F J e3=>?_;have:=h.AS t;rw [R,NU b1] at this;cases this;have ⟨q1,_,N⟩:=ch L he
   simp_all
   have ⟨_,_,N⟩:=ch L (zI F);exact (P.2.2 i j e x c F J e3).pK w (jh (N rfl) J)
  cases a;cases a
 cases a
theorem Ad:∀{a b:ao},nS n0 s a=some b->a.length=b.length/\∀(j:Nat) (y:TV),b[j]? =some y->∃x,a[j]? =some x/\jE n0 s x=some y:=by
 intro a;induction a with
 | nil=>intro b h;cases h;simp_all
 | cons x a f=>
  intro b h;simp only [nS] at h;have ⟨y,d,c⟩:=zQ.1 h;obtain ⟨g,e,rfl⟩:=map_some c
  grind
theorem Ae (h:∀a,x≠ .ag a):kA n0 s x=jE n0 s x:=by
 cases x with
 | ag a=>simp_all
 | _=>rfl
theorem mq (h:St X D ω fl H τ l s V) (i:kA fl s x=some y) (p:TR D (Mu X D l s) H x u):
  TR (eH fl D) (Mu X (eH fl D) [] (s.take fl)) H y u/\(∀b,y≠ .tu b)/\(∀j d,iG y j=some (.sl true d)->iG x j=some (.sl true d)):=by
 by_cases m:∃b,x= .ag b;obtain ⟨b,rfl⟩:=m;obtain ⟨K,r,rfl⟩:=map_some i;have ⟨q,k⟩:=Ad r;cases p with
 | @ag _ A F n=>
  refine ⟨.ag O λj y c w t=>?_,λ_ e=>(by cases e),λj d a=>?_⟩;have ⟨x,f,g⟩:=k j y w;exact (mw h g (n j x c f t)).1;have a:=a;have ⟨x,f,g⟩:=k j _ a;have E:=ab f;have v:=yK (show j<A.size by omega);have:=(mw h g (n j x _ f v)).2.2.2 d rfl;show b[j]? =_
  grind
 rw [Ae λb e=>m ⟨b,e⟩] at i;have ⟨q,k,z,J⟩:=mw h i p;refine ⟨q,z,λj d a=>?_⟩;cases y with
 | ag b=>simp_all
 | sl o C=>
  cases j with
  | zero=>
   have a:=a;cases a
   simp_all
  | succ j=>cases a
 | _=>cases j <;> cases a
theorem uU:∀{a b:ao},mo n0 s a=some b->a.length=b.length/\∀(j:Nat) (y:TV),b[j]? =some y->∃x,a[j]? =some x/\kA n0 s x=some y:=by
 intro a;induction a with
 | nil=>intro b h;cases h;simp_all
 | cons x a f=>
  intro b h;simp only [mo] at h;have ⟨y,d,c⟩:=zQ.1 h;obtain ⟨g,e,rfl⟩:=map_some c
  grind
theorem Gw (h:∀c,x≠ .tu c) (d:eG x a b=some y):a=0/\iG x b=some y:=by
 cases x with
 | tu c=>simp_all
 | _=>
  cases a with
  | zero=>exact ⟨rfl,d⟩
  | succ a=>cases d
theorem Kd (h:∀b,x≠ .tu b):eG x 0 a=iG x a:=by
 cases x with
 | tu b=>simp_all
 | _=>rfl
theorem Cy (h:St X D ω fl H τ l s V) (d:jF fl s x=some y) (o:TR D (Mu X D l s) H x u):
  TR (eH fl D) (Mu X (eH fl D) [] (s.take fl)) H y u/\(∀i j a,eG y i j=some (.sl true a)->eG x i j=some (.sl true a)):=by
 have z:(∀q,x≠ .tu q)->kA fl s x=some y->TR (eH fl D) (Mu X (eH fl D) [] (s.take fl)) H y u/\(∀i j a,eG y i j=some (.sl true a)->eG x i j=some (.sl true a)):=by intro v d;have ⟨p,f,A⟩:=mq h d o;refine ⟨p,λi j a e=>?_⟩;obtain ⟨rfl,b⟩:=Gw f e;rw [Kd v];exact A j a b
 cases x with
 | tu C=>
  obtain ⟨F,r,rfl⟩:=map_some d;have ⟨p,f⟩:=uU r;cases o with
  | @tu _ E K n=>
   refine ⟨.tu O λj y c m t=>?_,λi j a k=>?_⟩;have ⟨x,b,g⟩:=f j y m;exact (mq h g (n j x c b t)).1;have ⟨y,m,k⟩:=zQ.1 (show (F[i]?).bind (λx=>iG x j)=some (.sl true a) from k);have ⟨x,b,g⟩:=f i _ m;have J:=ab b;have w:=yK (show i<E.size by omega);have:=(mq h g (n i x _ b w)).2.2 j a k;show (C[i]?).bind (λx=>iG x j)=_
   simp_all
 | _=>exact z (λ_ e=>by cases e) d
theorem St.ro {l1:ae} {c4:TF} (x:St X D ω s.length H c4 [] s V) (m:St X E ω' s.length h τ l1 r p) (f:Xt X s.length D ω H [] s E ω' h l1 r)
  (c2:∀t,TR (eH s.length E) (Mu X (eH s.length E) [] (r.take s.length)) h (τ' t) (p.getD t undef)/\∀i j l,eG (τ' t) i j=some (.sl true l)->eG (τ t) i j=some (.sl true l)):
  St X (eH s.length E) ω' s.length h τ' [] s p/\Xt X s.length D ω H [] s (eH s.length E) ω' h [] s:=by
 have hs:r.take s.length=s:=by
  apply xF;intro i;rw [zS];split;rename_i w;exact f.Bm i w
  simp_all
 have J:∀v,Mu X (eH s.length E) [] s v->Mu X E l1 r v:=λv d=>by
  have:Mu X (eH s.length E) [] (r.take s.length) v:=by rw [hs];exact d
  exact this.yu
 have A:∀g c k b,D g c k=some b->eH s.length E g c k=some b:=by
  intro g c k b d;have z:=(x.fA g c k b d).1;cases g with
  | false=>exact absurd z (Nat.not_lt_zero _)
  | true=>exact (kj z).trans (f.qp true c k b d)
 have b2:Le D (Mu X D [] s) H (eH s.length E) (Mu X (eH s.length E) [] s) h:=⟨A,λb C sz lo n F=>⟨λb6=>by
  rcases f.mu b (J b b6) with q|q;exact F q
  simp_all,f.aM b C sz lo n F⟩⟩
 refine ⟨⟨λt=>?_,λt i j l a c3 L M=>m.ow t i j l a c3 ((c2 t).2 i j l L) M,λg c o n=>?_,m.lt,λg c k b d=>?_,zC _,m.xl,m.xo⟩,⟨A,f.len,f.same,f.aM,λv d=>f.mu v (J v d),λ_ _=>rfl⟩⟩
 simp_all
 cases g with
 | false=>simp [T.ob] at n
 | true=>
  have K:s[c]? =some o:=n;have hid:=ab K;have y:=x.ob true c o n;rw [Ig hid] at y ⊢;refine y.other b2 (λk b R w=>?_) (λk sz l N k' b1 _=>?_) (λe=>(by cases e));obtain ⟨v1,a1,a2⟩:=y.dH R;rw [w] at a1;cases a1;simp at a2;obtain ⟨q1,q2⟩:=f.same b (x.fA _ _ _ _ w).2 a2
  simp_all
  subst N;have q:=(f.Bm c hid).trans K;obtain ⟨_,_,_,_,_,_,_,P⟩:=m.ob true c _ q;exact (kj hid).trans (P k' b1)
 obtain ⟨rfl,hid,d⟩:=yv d;exact ⟨hid,(m.fA true c k b d).2⟩
theorem CO {m:Nat} (h:a<=m):∀c:Code,qd a c->qd m c:=by
 intro c;induction c with
 | region p t s=>
  intro e;simp only [qd,zT,zN] at e ⊢;intro o n;have ⟨j,g⟩:=e o n;refine ⟨j,?_⟩;cases l:o.dst with
  | none=>rfl
  | some d=>
   rw [l] at g;have k:d<a:=by simpa using g
   have:=xN k h
   simp_all
 | seq i b q r=>
  intro e;simp only [qd,zN] at e ⊢
  simp_all
 | cond c i b q r=>
  intro e;simp only [qd,zN] at e ⊢
  simp_all
 | block p c f=>intro e;exact f e
 | loop c f=>intro e;exact f e
 | _=>intro _;rfl
theorem Ar (r:TV):aG (aI [r]) 0 (bw (aI [r] 0))=aI [bw r]:=by
 funext t;cases t with
 | zero=>rfl
 | succ t=>rfl
theorem St.pQ (h:St X D ω fl H (aI [x]) l s [u]) (b:Bool):St X D ω fl H (aI [T.pQ b x]) l s [u]:=by
 cases b with
 | true=>exact h
 | false=>have:=h.Ht 0;rw [Ar] at this;exact this
theorem qc {iN:qI} {dp gL:Nat->Bool} (c7:∀K,dp K->iN (real K)=none/\gL (real K)/\∀b c,P.funcs[real K]? =some b->b.body=some c->qd b.ntmps c)
  (d1:∀K f n,dp K=false->A.tp K=some f->fj P A (λK' xs s fl=>if K'=K then f xs s fl else none) (fG P Pl iN gL L (n+1))):
  ∀n,fj P A (gY P A Pl dp L n) (fG P Pl iN gL L n):=by
 intro n;induction n with
 | zero=>intro K q s fl r s' a;cases a
 | succ n ih=>
  intro K q s fl r s' a c4 X D ω H g l d2;simp only [gY] at a;split at a;rename_i b2;have ⟨hp,j,c9⟩:=c7 K b2;split at a;rename_i b b1;split at a;rename_i c R;split at a;rename_i d8;have c6:=CO (m:=(g++List.replicate (b.ntmps-g.length) undef).length) W c (c9 b c b1 R);have N:fG P Pl iN gL L (n+1) (real K) g H=qE P Pl (fG P Pl iN gL L n) L (real K) b c g H:=by simp only [fG,hp,j,if_true,b1,R]
  have M:=l.congr (dx g (b.ntmps-g.length));generalize y:(bif A.rw K then fl else s.length)=i at a l M;cases o:kB P A Pl (gY P A Pl dp L n) L K b c q s i with
  | none=>rw [o] at a;cases a
  | some d6=>
   have ⟨F,p⟩:=d6;rw [o] at a;have d5:∃v h E ω' l1,qE P Pl (fG P Pl iN gL L n) L (real K) b c g H=some (v,h)/\St X E ω' i h (aI [F]) l1 p [v]/\Xt X i D ω H [] s E ω' h l1 p:=by
    unfold kB at o;have step:∀ex τ C J,(ex= .normal\/ex= .ret)->bN P A Pl (gY P A Pl dp L n) L K i 1 c (aI q) [] s=some (ex,τ,C,J)->uR P i b.results.toList τ C J=some (F,p)->
      ∃v h E ω' l1,qE P Pl (fG P Pl iN gL L n) L (real K) b c g H=some (v,h)/\St X E ω' i h (aI [F]) l1 p [v]/\Xt X i D ω H [] s E ω' h l1 p:=by
     intro ex τ C J c5 he hr;have ⟨V',h,E,ω',w,k,d,q4⟩:=Af ih c 1 _ _ _ _ H D ω _ c6 rfl M he;have ⟨v,d7,l3,k1,z,k3⟩:=Cl k hr;refine ⟨v,h,E,d7,l3,?_,z,d.trans k3⟩;unfold qE;rw [w];rcases c5 with rfl|rfl
     simp_all
     simp_all
    split at o
    grind
    grind
    cases o
   have ⟨v,h,E,ω',l1,w,k,d⟩:=d5;simp only [jq] at a;cases b6:A.rw K with
   | true=>
    rw [b6] at a;simp only [cond_true] at a;split at a;rename_i hn;cases a;have c8:=(k.out λt=>by
     cases t with
     | zero=>exact .inl hn
     | succ t=>exact .inr rfl).pQ (A.aM K)
    refine ⟨v,h,_,ω',N.trans w,c8,⟨λr id c2 c3 j=>?_,d.len,d.same,d.aM,λv j=>d.mu v (Mu.cut j),d.Bm⟩,λe=>(by cases e)⟩;have hd:=(l.fA r id c2 c3 j).1;cases r with
    | false=>exact absurd hd (Nat.not_lt_zero _)
    | true=>exact d.qp true id c2 c3 j
    cases a
   | false=>
    rw [b6] at a y;simp only [cond_false] at a y;subst y;have ⟨r1,x,e⟩:=map_some a;cases e;have ⟨k1,z⟩:=Cy k x (k.tm 0);have ⟨g1,g2⟩:=l.ro (τ':=aI [r1]) k d λt=>by
     cases t with
     | zero=>exact ⟨k1,z⟩
     | succ t=>exact ⟨.u,λd3 d4 es e=>by cases d3 <;> cases d4 <;> simp [aI,eG,iG] at e⟩
    exact ⟨v,h,_,ω',N.trans w,g1.pQ (A.aM K),g2,λ_=>rfl⟩
  cases a;cases a;cases a;rename_i b2;split at a;rename_i f x;exact d1 K f n (by grind) x K q s fl r s' (by grind) c4 X D ω H g l d2;cases a
end
def By {c:Type} (a b:Option c):Prop:=∀x,a=some x->b=some x
theorem By.refl {b:Type} (a:Option b):By a a:=λ_ h=>h
def N9 (c d:Tc):Prop:=∀K b s a,By (c K b s a) (d K b s a)
section
variable {P:aB} {A:An} {Pl:cQ} {dp:Nat->Bool} {c D:Tc} {K id fl an:Nat} {J:Array Oper}
theorem sr (e:N9 c D) (o:Oper) (a:TF) (l s:ae):By (dC P A c an fl o a l s) (dC P A D an fl o a l s):=by
 intro x h;have ⟨n,j,w,pos,k,guard⟩:=o;cases j with
 | call d=>
  have ⟨callee,args,v⟩:=d;cases callee with
  | value f=>simp only [dC] at h ⊢;split at h;rename_i K q;split at h;rename_i g;obtain ⟨p,i,rfl⟩:=map_some h;rw [zP g,e _ _ _ _ _ i];rfl;cases h;cases h
  | builtin b=>exact h
  | invoke r m=>exact h
 | makeMap t r=>cases r <;> exact h
 | _=>exact h
theorem A4 (a:N9 c D) (p:Nat×aA) (x:RS):By (jC P A c K id fl J p x) (jC P A D K id fl J p x):=by
 intro y h;unfold jC at h ⊢;split at h;cases h;rename_i o e
 skip
 split at h;rename_i b;rw [zP b];split at h;cases h;exact h;split at h;cases h;rename_i v g l1 f d;rw [sr a _ _ _ _ _ d];exact h;cases h
theorem nO (d:N9 c D):∀(ps:List (Nat×aA)) (x:RS),By (dR P A c K id fl J ps x) (dR P A D K id fl J ps x):=by
 intro ps;induction ps with
 | nil=>intro x;exact By.refl _
 | cons p ps e=>intro x y h;simp only [dR] at h ⊢;have ⟨z,a,b⟩:=zQ.1 h;rw [A4 d _ _ _ a];exact e _ _ b
theorem nR {b d:ao->ae->ae->Option TE} {g:aA} (i:∀c l s,By (b c l s) (d c l s)):∀(n m:Nat),n<=m->∀c l s,By (jD b g a n c l s) (jD d g a m c l s):=by
 intro n;induction n with
 | zero=>intro m _ c l s x h;cases h
 | succ n o=>
  intro m p c l s x h;obtain ⟨m,rfl⟩:∃k,m=k+1:=⟨m-1,O⟩;simp only [jD] at h ⊢;cases f:b c l s with
  | none=>simp_all
  | some r=>
   rw [i _ _ _ _ f];rw [f] at h;have ⟨e,t,l1,q⟩:=r;cases e with
   | normal=>simp only at h ⊢;split at h;rename_i j;rw [zP j];exact o m O _ _ _ _ h;cases h
   | _=>exact h
theorem iK (v:N9 c D) (q:a<=b):∀(d:Code) (p:Nat) (f:TF) (l s:ae),By (bN P A Pl c a K fl p d f l s) (bN P A Pl D b K fl p d f l s):=by
 intro d;induction d with
 | region id J w=>intro p f l s x h;simp only [bN] at h ⊢;obtain ⟨y,o,rfl⟩:=map_some h;rw [nO v _ _ _ o];rfl
 | seq g n k m=>
  intro p f l s x h;simp only [bN] at h ⊢;cases i:bN P A Pl c a K fl (2*p) g f l s with
  | none=>simp_all
  | some r=>
   rw [k _ _ _ _ _ i];rw [i] at h;have ⟨e,H,l1,E⟩:=r;cases e with
   | normal=>exact m _ _ _ _ _ h
   | _=>exact h
 | cond z g n k m=>
  intro p f l s x h;simp only [bN] at h ⊢;split at h;rename_i t C;cases t with
  | true=>exact k _ _ _ _ _ h
  | false=>exact m _ _ _ _ _ h
  cases h
 | block id g j=>
  intro p f l s x h;simp only [bN] at h ⊢;cases i:bN P A Pl c a K fl (2*p) g f l s with
  | none=>simp_all
  | some r=>
   rw [j _ _ _ _ _ i]
   simp_all
 | loop g j=>intro p f l s x h;simp only [bN] at h ⊢;exact nR (λF l s=>j _ _ _ _) a b q _ _ _ _ h
 | _=>intro p f l s;exact By.refl _
theorem nW (g:N9 c D) (f:a<=b) {e:Func} {d:Code}:By (kB P A Pl c a K e d o r fl) (kB P A Pl D b K e d o r fl):=by
 intro x h;unfold kB at h ⊢;cases i:bN P A Pl c a K fl 1 d (aI o) [] r with
 | none=>simp_all
 | some j=>
  rw [iK g f _ _ _ _ _ _ i]
  simp_all
theorem nU (g:a<=b):∀(n m:Nat),n<=m->N9 (gY P A Pl dp a n) (gY P A Pl dp b m):=by
 intro n;induction n with
 | zero=>intro m _ K e s fl x h;cases h
 | succ n l=>
  intro m q K e s fl x h;obtain ⟨m,rfl⟩:∃k,m=k+1:=⟨m-1,O⟩;simp only [gY] at h ⊢;split at h;rename_i j;rw [zP j];split at h;rename_i f p
  skip
  split at h;rename_i d o
  skip
  split at h;rename_i i;rw [zP i];cases c:kB P A Pl (gY P A Pl dp a n) a K f d e s (bif A.rw K then fl else s.length) with
  | none=>rw [c] at h;cases h
  | some r=>
   rw [nW (l m O) g _ c]
   simp_all
  cases h;cases h;cases h
  simp_all
end
abbrev tc (P:aB) (A:An) (Pl:cQ) (dp:Nat->Bool) (n:Nat):Tc:=gY P A Pl dp n n
theorem jG {P:aB} {A:An} {Pl:cQ} {dp:Nat->Bool} (h:a<=b):N9 (tc P A Pl dp a) (tc P A Pl dp b):=nU h a b h
structure CX where
 R:Type
 bad:R
 cl:Nat->ao->ae->Nat->(TV->ae->R)->R
 gg:TV->Bool->((TV->ae->ae->R)->ae->ae->R)->(TV->ae->ae->R)->ae->ae->R
 lp:((ao->ae->ae->R)->ao->ae->ae->R)->ao->ae->ae->R
 fl:Nat
 rt:TV->ae->R
 P:aB
def CX.wp (X:CX) (P:aB):CX:={X with P:=P}
abbrev RA (X:CX):=ae->ae->X.R
abbrev LB (X:CX):=ao->RA X
def bd (X:CX) {b:Type} (o:Option b) (k:b->X.R):X.R:=match o with
 | some a=>k a
 | none=>X.bad
def rV (X:CX) (b:Bool) (r:X.R):X.R:=bif b then r else X.bad
namespace Q
section
variable {X:CX}
def pk (c a b:TV) (k:TV->RA X):RA X:=λl s=>match c with
 | .v (.bool t)=>k (bw (bif t then a else b)) l s
 | _=>X.bad
def al (z:ao) (n:Nat) (k:TV->RA X):RA X:=λl s=>k (.p false l.length 0) (l++[.row z n]) s
def aly (z:ao) (n:Nat) (k:TV->RA X):RA X:=λl s=>k (.p true s.length 0) l (s++[.row z n])
def bx (n:Nat) (x:TV) (k:TV->RA X):RA X:=λl s=>rV X (aW x&&pR n (ce x)) (k (.p false l.length 0) (l++[.row (ce x) n]) s)
def bx0 (n:Nat) (x:TV) (k:TV->RA X):RA X:=λl s=>rV X (aW x&&pR n (ce x)) (k (.p false l.length 0) (l++[.row ((ce x).map dX) n]) s)
def ER (n:Nat) (x:TV) (k:TV->RA X):RA X:=λl s=>rV X (aW x&&pR n (ce x)) (k (.p true s.length 0) l (s++[.row ((ce x).map jz) n]))
def bu (z:ao) (pl:List (Nat×Nat)) (ps:List (Nat×TV)) (k:TV->RA X):RA X:=λl s=>bd X (iJ pl z ps) λa=>k (.ag a) l s
def WB (a n:Nat) (z:ao) (ps:List (Nat×TV)) (l s:ae):Option (TV×ae×ae):=
 if n*z.length<=16777216/\0<z.length/\bO (ps.map (·.2))=true then match iY z.length (mC n z) ps with
  | some b=>if cR a z.length b=true then (bif Nat.beq n 0 then some (.sl true [],l,s) else some (db a z.length b l s)) else none
  | none=>none
 else none
def bs (a n:Nat) (z:ao) (ps:List (Nat×TV)) (k:TV->RA X):RA X:=λl s=>bd X (WB a n z ps l s) λp=>k p.1 p.2.1 p.2.2
def ld (g:Bool) (n:Nat) (a:TV) (k:TV->RA X):RA X:=λl s=>bd X (fk g n l s a) λv=>k v l s
def lt (g:Bool) (n:Nat) (a:TV) (k:TV->RA X):RA X:=λl s=>bd X (gW g n X.fl l s a) λp=>k p.1 p.2.1 p.2.2
def st (n:Nat) (a x:TV) (k:TV->RA X):RA X:=λl s=>bd X (cI n X.fl x l s a) λp=>k (.tu []) p.1 p.2
def fz (x:TV) (k:TV->RA X):RA X:=λl s=>bd X (et l s x) λq=>k q.1 q.2.1 q.2.2
def nk (x:TV) (k:TV->RA X):RA X:=λl s=>bd X (A6 x) λv=>k v l s
def boP (P:aB) (a:BinOp) (t:aP) (x y:TV) (k:TV->RA X):RA X:=λl s=>bd X (cm P a t x y) λv=>k v l s
def uoP (P:aB) (a:UnOp) (x:TV) (k:TV->RA X):RA X:=λl s=>bd X (G8 P a x) λv=>k v l s
def cvP (P:aB) (a d:aP) (x:TV) (k:TV->RA X):RA X:=λl s=>bd X (bJ P a d x l s) λv=>k v l s
def mm (k:TV->RA X):RA X:=λl s=>k (.mp s.length) l (s++[.mp #[] 0])
def E9 (a e b:Nat) (z:ao) (n c:TV) (l s:ae):Option (TV×ae×ae):=match n,c with
 | .v (.int _ i),.v (.int _ j)=>if i=j then mT a e b z n l s else none
 | _,_=>none
def ms (a e b:Nat) (z:ao) (n c:TV) (k:TV->RA X):RA X:=λl s=>bd X (E9 a e b z n c l s) λp=>k p.1 p.2.1 p.2.2
def slP (P:aB) (t:aP) (x:TV) (b a c:eh) (k:TV->RA X):RA X:=λl s=>bd X (aK P t b a c l s x) λv=>k v l s
def pa (o:Nat) (x:TV) (k:TV->RA X):RA X:=λl s=>bd X (Nj o x) λv=>k v l s
def fd (o:Nat) (g:Bool) (n:Nat) (x:TV) (k:TV->RA X):RA X:=λl s=>bd X (Nn o g n x) λv=>k v l s
def ia (e:Nat) (x i:TV) (k:TV->RA X):RA X:=λl s=>bd X (uT e x i) λv=>k v l s
def Em (a e:Nat) (x i:TV) (k:TV->RA X):RA X:=λl s=>bd X (Ac a e x i) λv=>k v l s
def ixP (P:aB) (t:aP) (x i:TV) (k:TV->RA X):RA X:=λl s=>bd X (mn P t x i) λv=>k v l s
def lkP (P:aB) (t:aP) (a:Bool) (x i:TV) (k:TV->RA X):RA X:=λl s=>bd X (Ft P t a x i l s) λv=>k v l s
def KM (P:aB) (t:aP) (a:Nat) (m i x:TV) (l s:ae):Option (ae×ae):=match P.underlying t with
 | some (.map k _)=>match P.underlying k with
  | some b=>zy b a m i x l s
  | none=>none
 | _=>none
def muP (P:aB) (t:aP) (m i x:TV) (k:TV->RA X):RA X:=λl s=>bd X (KM P t X.fl m i x l s) λp=>k (.tu []) p.1 p.2
def ex (i:Nat) (x:TV) (k:TV->RA X):RA X:=λl s=>bd X (text i x) λv=>k v l s
def cl (K:Nat) (a:ao) (k:TV->RA X):RA X:=λl s=>rV X (bO a) (X.cl K a s X.fl λv s=>k v l s)
def af (K:Nat) (a:ao) (k:TV->RA X):RA X:=λl s=>rV X (bO (a.map dz)) (X.cl K (a.map dz) s X.fl λv s=>k v l s)
def ap (c:Bool) (e b a:Nat) (x y:TV) (k:TV->RA X):RA X:=λl s=>bd X (cq c e b a X.fl x y l s) λp=>k p.1 p.2.1 p.2.2
def cp (e:Nat) (x y:TV) (k:TV->RA X):RA X:=λl s=>bd X (lC e X.fl x y l s) λp=>k p.1 p.2.1 p.2.2
def lnP (P:aB) (t:aP) (x:TV) (k:TV->RA X):RA X:=λl s=>bd X (eO P t x l s) λv=>k v l s
def biP (P:aB) (b:Builtin) (c:Array aP) (d:aP) (a:Array Bool) (e:ao) (k:TV->RA X):RA X:=λl s=>bd X (CF P b c d a e) λv=>k v l s
end
end Q
def yp (P:aB) (A:An) (X:CX) (j:Nat) (o:Oper) (h:TF) (l s:ae) (k:TV->TF->RA X):X.R:=
 match o.op with
 | .move x=>bif Nat.beq j 1 then k (aS h x) (dN h x) l s else bif Nat.beq j 2 then (match x with|.tmp t=>Q.fz (h t) (λy=>k y (dN (aG h t y) (.tmp t))) l s|_=>X.bad) else k (bw (aS h x)) h l s
 | .assign x=>bif Nat.beq j 1 then k (aS h x) (dN h x) l s else bif Nat.beq j 2 then (match x with|.tmp t=>Q.fz (h t) (λy=>k y (dN (aG h t y) (.tmp t))) l s|_=>X.bad) else k (bw (aS h x)) h l s
 | .pick c a b=>Q.pk (aS h c) (aS h a) (aS h b) (λv=>k v h) l s
 | .alloc e=>match zc P e with
  | some z=>bif Nat.beq j 2 then Q.aly z (bc P e) (λv=>k v h) l s else Q.al z (bc P e) (λv=>k v h) l s
  | none=>X.bad
 | .box e x=>match j with
  | 0=>Q.bx0 (bc P e) (aS h x) (λv=>k v h) l s
  | 1=>Q.bx (bc P e) (aS h x) (λv=>k v (dN h x)) l s
  | 2=>Q.ER (bc P e) (aS h x) (λv=>k v h) l s
  | _=>X.bad
 | .build t ps=>match zc P t,VZ P t with
  | some z,some pl=>Q.bu z pl (ps.toList.map λp=>(p.1,aS h p.2)) (λv=>k v h) l s
  | _,_=>X.bad
 | .buildSlice t n ps=>match Bo P t with
  | some r=>match zc P r with
   | some z=>Q.bs j n z (ps.toList.map λp=>(p.1,aS h p.2)) (λv=>k v h) l s
   | none=>X.bad
  | none=>X.bad
 | .load t a=>match res P t with
  | some (g,n)=>bif Nat.beq j 1 then Q.lt g n (aS h a) (λv=>k v h) l s else Q.ld g n (aS h a) (λv=>k v h) l s
  | none=>X.bad
 | .store t a x=>match me P t with
  | some n=>match j with
   | 0=>Q.st n (aS h a) (bw (aS h x)) (λv=>k v h) l s
   | 1=>Q.st n (aS h a) (aS h x) (λv=>k v (dN h x)) l s
   | _=>match x with
    | .tmp t=>bd X (et l s (h t)) λq=>bd X (cI n X.fl q.1 q.2.1 q.2.2 (aS (aG h t q.1) a)) λp=>k (.tu []) (dN (aG h t q.1) x) p.1 p.2
    | _=>X.bad
  | none=>X.bad
 | .nilCheck x=>Q.nk (aS h x) (λv=>k v h) l s
 | .binOp C t x y _=>Q.boP P C t (aS h x) (aS h y) (λv=>k v h) l s
 | .unOp C _ x=>Q.uoP P C (aS h x) (λv=>k v h) l s
 | .convert a d x=>Q.cvP P a d (aS h x) (λv=>k v h) l s
 | .makeMap _ none=>Q.mm (λv=>k v h) l s
 | .makeSlice t n c=>match Bo P t with
  | some r=>match zc P r,P.info? r with
   | some z,some e=>Q.ms j e.size e.bytes z (aS h n) (aS h c) (λv=>k v h) l s
   | _,_=>X.bad
  | none=>X.bad
 | .slice t x H E J=>Q.slP P t (aS h x) (H.map (aS h)) (E.map (aS h)) (J.map (aS h)) (λv=>k v h) l s
 | .fieldAddr t x f=>match tD P t f with
  | some (o,_,n)=>if n≠0 then Q.pa o (aS h x) (λv=>k v h) l s else X.bad
  | none=>X.bad
 | .field t x f=>match tD P t f with
  | some (o,g,n)=>Q.fd o g n (aS h x) (λv=>k v h) l s
  | none=>X.bad
 | .indexAddr t x i=>match P.underlying t with
  | some (.slice r)=>match me P r with
   | some e=>Q.ia e (aS h x) (aS h i) (λv=>k v h) l s
   | none=>X.bad
  | some (.array F r)=>match me P r with
   | some e=>Q.Em F e (aS h x) (aS h i) (λv=>k v h) l s
   | none=>X.bad
  | _=>X.bad
 | .index t x i=>Q.ixP P t (aS h x) (aS h i) (λv=>k v h) l s
 | .lookup t x i L=>Q.lkP P t L (aS h x) (aS h i) (λv=>k v h) l s
 | .mapUpdate t m i x=>Q.muP P t (aS h m) (aS h i) (aS h x) (λv=>k v h) l s
 | .extract x i=>bif Nat.beq j 1 then Q.ex i (aS h x) (λv=>k v (y9 h i x)) l s else Q.ex i (aS h x) (λv=>k (dz v) h) l s
 | .call {callee:=.value f,args, ..}=>match Ir P (aS h f) with
  | some K=>bif A.aM (K+1000*j) then Q.cl (K+1000*j) (jO h [] args.toList) (λv=>k v (lD h args.toList)) l s
   else Q.af (K+1000*j) (args.toList.map (aS h)) (λv=>k v h) l s
  | none=>X.bad
 | .call {callee:=.builtin b,args,argTypes}=>match b,args.toList,argTypes.toList with
  | .append,[x,y],[w,M]=>match Bo P w,P.underlying M with
   | some r,some D=>match P.info? r,vP D with
    | some e,true=>if (e.zero.map (·.cells.size))=some e.size/\e.size<1000000 then Q.ap (qo w) e.size e.bytes j (aS h x) (aS h y) (λv=>k v (dN h x)) l s else X.bad
    | _,_=>X.bad
   | _,_=>X.bad
  | .copy,[x,y],[w,_]=>match Bo P w with
   | some r=>match me P r with
    | some e=>Q.cp e (aS h x) (aS h y) (λv=>k v h) l s
    | none=>X.bad
   | none=>X.bad
  | .len,[x],[t]=>Q.lnP P t (aS h x) (λv=>k v h) l s
  | _,_,_=>Q.biP P b argTypes o.type (args.map λ| .const _=>true|_=>false) (args.toList.map (aS h)) (λv=>k v h) l s
 | _=>X.bad
structure jr (P:aB) (A:An) (Pl:cQ) (dp:Nat->Bool) (X:CX) (Good:X.R->Prop):Prop where
 bad:¬Good X.bad
 cl:∀{K xs s fl k},Good (X.cl K xs s fl k)->∃n r s',tc P A Pl dp n K xs s fl=some (r,s')/\Good (k r s')
 gg:∀{w b st k l s},Good (X.gg w b st k l s)->(w= .v (.bool b)/\Good (st k l s))\/(∃b',b'≠b/\w= .v (.bool b')/\Good (k (.tu []) l s))\/(w= .tu []/\Good (k (.tu []) l s))
section
variable {P:aB} {A:An} {Pl:cQ} {dp:Nat->Bool} {X:CX} {Good:X.R->Prop}
theorem jr.bd (c:jr P A Pl dp X Good) {b:Type} {o:Option b} {k:b->X.R} (h:Good (T.bd X o k)):∃a,o=some a/\Good (k a):=by
 cases o with
 | none=>exact (c.bad h).elim
 | some a=>exact ⟨a,rfl,h⟩
theorem jr.rV (a:jr P A Pl dp X Good) {r:X.R} (h:Good (T.rV X q r)):q/\Good r:=by
 cases q with
 | false=>exact (a.bad h).elim
 | true=>exact ⟨rfl,h⟩
theorem n4 (b:jr P A Pl dp X Good) {o:Oper} {l:TF} {b1:TV->TF->RA X} (h:Good (yp P A X a o l r s b1)):
  ∃n v c2 l1 s1,dC P A (tc P A Pl dp n) a X.fl o l r s=some (v,c2,l1,s1)/\Good (b1 v c2 l1 s1):=by
 have ⟨c8,K,e1,pos,c6,guard⟩:=o;cases K <;> simp only [yp] at h <;> (try (exact (b.bad h).elim)) <;> simp only [dC]
 case move x=>
  refine ⟨0,?_⟩;cases k:Nat.beq a 1 with
  | true=>grind
  | false=>
   rw [k] at h;simp at h ⊢;cases F:Nat.beq a 2 with
   | true=>rw [F] at h;simp at h ⊢;split at h;have ⟨b2,d,j⟩:=b.bd h;exact ⟨_,_,_,_,by simp only [Oi,d,zM],j⟩;exact (b.bad h).elim
   | false=>grind
 case assign x=>
  refine ⟨0,?_⟩;cases k:Nat.beq a 1 with
  | true=>grind
  | false=>
   rw [k] at h;simp at h ⊢;cases F:Nat.beq a 2 with
   | true=>rw [F] at h;simp at h ⊢;split at h;have ⟨b2,d,j⟩:=b.bd h;exact ⟨_,_,_,_,by simp only [Oi,d,zM],j⟩;exact (b.bad h).elim
   | false=>grind
 case pick c D c4=>unfold Q.pk at h;split at h;rename_i t ht;exact ⟨0,_,_,_,_,by rw [ht],h⟩;exact (b.bad h).elim
 case alloc e=>
  split at h;rename_i z C;refine ⟨0,?_⟩;cases k:Nat.beq a 2 with
  | true=>rw [k] at h;exact ⟨_,_,_,_,by simp_all,h⟩
  | false=>rw [k] at h;exact ⟨_,_,_,_,by simp_all,h⟩
  exact (b.bad h).elim
 case box e x=>split at h;have ⟨d,j⟩:=b.rV h;exact ⟨0,_,_,_,_,by simp_all,j⟩;have ⟨d,j⟩:=b.rV h;exact ⟨0,_,_,_,_,by simp_all,j⟩;have ⟨d,j⟩:=b.rV h;exact ⟨0,_,_,_,_,by simp_all,j⟩;exact (b.bad h).elim
 case build t ps=>split at h;rename_i z pl C d5;have ⟨cs,d,j⟩:=b.bd h;exact ⟨0,_,_,_,_,by simp_all,j⟩;exact (b.bad h).elim
 case buildSlice t n ps=>
  split at h;rename_i m H;split at h;rename_i z C;have ⟨p,d,j⟩:=b.bd h;unfold Q.WB at d;split at d;rename_i M;rw [List.map_map] at M;have c9:n*z.length<=16777216/\0<z.length/\bO (ps.toList.map λp=>aS l p.2)=true:=M;split at d;rename_i es d3;split at d;rename_i d7;refine ⟨0,p.1,l,p.2.1,p.2.2,?_,j⟩
  grind
  cases d;cases d;cases d;exact (b.bad h).elim;exact (b.bad h).elim
 case load t D=>
  split at h;rename_i g n hr;refine ⟨0,?_⟩;cases k:Nat.beq a 1 with
  | true=>
   rw [k] at h;have ⟨p,d,j⟩:=b.bd h
   grind
  | false=>
   rw [k] at h;have ⟨v,d,j⟩:=b.bd h
   grind
  exact (b.bad h).elim
 case store t D x=>
  split at h;rename_i n hn;refine ⟨0,?_⟩;split at h;have ⟨p,d,j⟩:=b.bd h
  grind
  have ⟨p,d,j⟩:=b.bd h
  grind
  split at h;rename_i n0 n1 t0;have ⟨b2,d,j⟩:=b.bd h;have ⟨p,E,w⟩:=b.bd j
  grind
  exact (b.bad h).elim;exact (b.bad h).elim
 case nilCheck x=>have ⟨v,d,j⟩:=b.bd h;exact ⟨0,_,_,_,_,by rw [d];rfl,j⟩
 case binOp K t x b6 z=>have ⟨v,d,j⟩:=b.bd h;exact ⟨0,_,_,_,_,by rw [d];rfl,j⟩
 case unOp K t x=>have ⟨v,d,j⟩:=b.bd h;exact ⟨0,_,_,_,_,by rw [d];rfl,j⟩
 case convert D c7 x=>have ⟨v,d,j⟩:=b.bd h;exact ⟨0,_,_,_,_,by rw [d];rfl,j⟩
 case makeMap t q=>
  cases q with
  | none=>exact ⟨0,_,_,_,_,rfl,h⟩
  | some q=>exact (b.bad h).elim
 case makeSlice t n c=>
  split at h;rename_i m H;split at h;rename_i z e C y;have ⟨p,d,j⟩:=b.bd h;unfold Q.E9 at d;split at d;rename_i i d8 hi hj;split at d;rename_i d4;refine ⟨0,p.1,l,p.2.1,p.2.2,?_,j⟩
  simp_all
  cases d;cases d;exact (b.bad h).elim;exact (b.bad h).elim
 case slice t x lo hi mx=>have ⟨v,d,j⟩:=b.bd h;exact ⟨0,_,_,_,_,by rw [d];rfl,j⟩
 case fieldAddr t x f=>split at h;rename_i o g n hf;split at h;rename_i hn;have ⟨v,d,j⟩:=b.bd h;exact ⟨0,_,_,_,_,by simp_all,j⟩;exact (b.bad h).elim;exact (b.bad h).elim
 case field t x f=>split at h;rename_i o g n hf;have ⟨v,d,j⟩:=b.bd h;exact ⟨0,_,_,_,_,by simp_all,j⟩;exact (b.bad h).elim
 case indexAddr t x i=>split at h;rename_i m R;split at h;rename_i e y;have ⟨v,d,j⟩:=b.bd h;exact ⟨0,_,_,_,_,by simp_all,j⟩;exact (b.bad h).elim;rename_i d9 m R;split at h;rename_i e y;have ⟨v,d,j⟩:=b.bd h;exact ⟨0,_,_,_,_,by simp_all,j⟩;exact (b.bad h).elim;exact (b.bad h).elim
 case index t x i=>have ⟨v,d,j⟩:=b.bd h;exact ⟨0,_,_,_,_,by rw [d];rfl,j⟩
 case lookup t x i ok=>have ⟨v,d,j⟩:=b.bd h;exact ⟨0,_,_,_,_,by rw [d];rfl,j⟩
 case mapUpdate t c5 i x=>have ⟨p,d,j⟩:=b.bd h;unfold Q.KM at d;split at d;rename_i kt e R;split at d;rename_i kd J;exact ⟨0,_,_,_,_,by simp_all,j⟩;cases d;cases d
 case extract x i=>
  refine ⟨0,?_⟩;cases k:Nat.beq a 1 with
  | true=>
   rw [k] at h;have ⟨v,d,j⟩:=b.bd h
   grind
  | false=>
   rw [k] at h;have ⟨v,d,j⟩:=b.bd h
   grind
 case call c=>
  have ⟨callee,args,ts⟩:=c;cases callee with
  | value f=>
   simp only at h ⊢;split at h;rename_i c3 hK;cases J:A.aM (c3+1000*a) with
   | true=>rw [J] at h;have ⟨d,j⟩:=b.rV h;have ⟨n,q,s',E,w⟩:=b.cl j;exact ⟨n,_,_,_,_,by simp_all,w⟩
   | false=>
    rw [J] at h;have ⟨d,j⟩:=b.rV h;have ⟨n,q,s',E,w⟩:=b.cl j;have e:(args.toList.map (aS l)).map dz=args.toList.map λx=>dz (aS l x):=by rw [List.map_map];rfl
    rw [e] at d E;exact ⟨n,_,_,_,_,by simp_all,w⟩
   exact (b.bad h).elim
  | invoke q c5=>exact (b.bad h).elim
  | builtin c4=>
   simp only at h ⊢;refine ⟨0,?_⟩;split at h;rename_i x b6 t0 t1 L N;split at h;rename_i m d1 H d2;split at h;rename_i e y d6;split at h;rename_i C;have ⟨p,d,j⟩:=b.bd h
   grind
   exact (b.bad h).elim;exact (b.bad h).elim;exact (b.bad h).elim;rename_i x b6 t0 t1 L N;split at h;rename_i m H;split at h;rename_i e y;have ⟨p,d,j⟩:=b.bd h
   grind
   exact (b.bad h).elim;exact (b.bad h).elim;rename_i x t L N;have ⟨v,d,j⟩:=b.bd h
   grind
   rename_i n1 n2 n3;have ⟨v,d,j⟩:=b.bd h;refine ⟨v,l,r,s,?_,j⟩;split
   grind
   grind
   simp_all
   grind
end
def gq (P:aB) (A:An) (a:Nat) (b:TF) (o:Oper):Bool:=match o.op with
 | .move _=> !Nat.beq a 1&& !Nat.beq a 2
 | .assign _=> !Nat.beq a 1&& !Nat.beq a 2
 | .extract _ _=> !Nat.beq a 1
 | .box _ _=> !Nat.beq a 1
 | .store _ _ _=>Nat.beq a 0
 | .call {callee:=.value f, ..}=>match Ir P (aS b f) with
  | some K=> !A.aM (K+1000*a)
  | none=>true
 | .call {callee:=.builtin .append, ..}=>false
 | _=>true
def gck (P:aB) (A:An) (X:CX) (d:Array Oper) (e:aA) (o:Oper) (a:Nat) (h:TF) (c f:ae) (b:aA) (g:TF) (l s:ae) (r:X.R):X.R:=
 rV X (b.all λj=>sw P A d X.fl e o a h c f g l s j) r
def ik (P:aB) (A:An) (X:CX) (K c:Nat) (b:Array Oper):List (Nat×aA)->TF->ae->ae->aA->(TF->RA X)->X.R
 | [],a,l,s,_,k=>k a l s
 | p::ps,a,l,s,e,k=>match b[p.1]? with
  | none=>X.bad
  | some o=>bif VY P b p e o then match o.guard with
   | none=>yp P A X (A.an K c p.1) o a l s λv g l1 f=>gck P A X b e o (A.an K c p.1) a l s p.2 (dT g o.dst v) l1 f (ik P A X K c b ps (dT g o.dst v) l1 f (Jk P b p e o) k)
   | some (j,i)=>match (b[j]?).bind (·.dst) with
    | some d=>bif gq P A (A.an K c p.1) a o then X.gg (a d) i (λh l s=>yp P A X (A.an K c p.1) o a l s λv _ l1 f=>gck P A X b e o (A.an K c p.1) a l s p.2 (dT a o.dst v) l1 f (h v l1 f))
      (λv l s=>ik P A X K c b ps (dT a o.dst v) l s (Jk P b p e o) k) l s else X.bad
    | none=>X.bad
   else X.bad
def kc (X:CX) (a:Nat) (k:LB X):LB X:=λb l s=>rV X (Ji a b) (k b (l.take a) s)
namespace Q
def br {X:CX} (c:TV) (a b:RA X):RA X:=λl s=>match c with
 | .v (.bool t)=>bif t then a l s else b l s
 | _=>X.bad
def lp {X:CX} (c:aA) (b:LB X->LB X) (a:ao):RA X:=λl s=>X.lp (λk a d e=>b (kc X l.length k) (c.map (eg c a)) d e) a l s
end Q
abbrev KN (X:CX):=TF->RA X
def ee (P:aB) (A:An) (Pl:cQ) (X:CX) (K:Nat):Nat->Code->TF->ae->ae->KN X->(Nat->KN X)->KN X->X.R
 | _,.skip,d,l,s,f,_,_=>f d l s
 | _,.region h j m,d,l,s,f,_,_=>ik P A X K h j (if m=true then Pl (real K) h else nz j.size) d l s [] f
 | p,.seq a b,d,l,s,f,e,g=>ee P A Pl X K (2*p) a d l s (λd l s=>ee P A Pl X K (2*p+1) b d l s f e g) e g
 | p,.cond c a b,d,l,s,f,e,g=>Q.br (aS d c) (λl s=>ee P A Pl X K (2*p) a d l s f e g) (λl s=>ee P A Pl X K (2*p+1) b d l s f e g) l s
 | p,.block h c,d,l,s,f,e,g=>ee P A Pl X K (2*p) c d l s f (λi d l s=>bif Nat.beq i h then f d l s else e i d l s) g
 | p,.loop c,d,l,s,_,e,g=>Q.lp (A.lv K p) (λk n l s=>ee P A Pl X K (2*p) c (eg (A.lv K p) n) l s (λd l s=>k ((A.lv K p).map d) l s) e g) ((A.lv K p).map d) l s
 | _,.exit h,d,l,s,_,e,_=>e h d l s
 | _,.ret,d,l,s,_,_,g=>g d l s
 | _,_,_,_,_,_,_,_=>X.bad
def KW {R:Type} (bad:R) (b:(ao->ae->ae->R)->ao->ae->ae->R):Nat->ao->ae->ae->R
 | 0=>λ_ _ _=>bad
 | n+1=>b (KW bad b n)
abbrev Wl (X:CX) (b:LB X->LB X) (n:Nat):LB X:=KW X.bad b n
section
variable {P:aB} {A:An} {Pl:cQ} {dp:Nat->Bool} {X:CX} {Good:X.R->Prop} {K id an:Nat} {J:Array Oper}
theorem Hu {o:Oper} {j:TF} (h:gq P A an j o) {c:Tc} {l:TF} {l1 z:ae} (d:dC P A c an a o j r s=some (x,l,l1,z)):l=j:=by
 have ⟨E,y,J,pos,D,guard⟩:=o;have one:Nat.beq an 1=false\/Nat.beq an 1:=by cases Nat.beq an 1 <;> simp
 cases y <;> simp only [gq] at h <;> simp only [dC] at d <;> (try (cases d;done)) <;> (try (have ⟨_,_,e⟩:=map_some d;exact (yH (λq:TS=>q.2.1) e).symm))
 simp_all
 simp_all
 case extract g i=>rw [(by grind:Nat.beq an 1=false)] at d;have ⟨_,_,e⟩:=map_some d;simp_all
 case box e g=>
  split at d;split at d
  grind
  cases d;cases h;split at d
  grind
  cases d;cases d
 case store t p g=>cases zU h;split at d;have ⟨_,_,e⟩:=map_some d;simp_all;cases d
 grind
 grind
 case build t ps=>split at d;have ⟨_,_,e⟩:=map_some d;simp_all;cases d
 grind
 case load t p=>
  split at d;cases k:Nat.beq an 1 with
  | true=>rw [k] at d;have ⟨_,_,e⟩:=map_some d;simp_all
  | false=>rw [k] at d;have ⟨_,_,e⟩:=map_some d;simp_all
  cases d
 grind
 case makeSlice t n c=>split at d;split at d;split at d;split at d;have ⟨_,_,e⟩:=map_some d;simp_all;cases d;cases d;cases d;cases d
 case fieldAddr t g f=>split at d;split at d;have ⟨_,_,e⟩:=map_some d;simp_all;cases d;cases d
 case field t g f=>split at d;have ⟨_,_,e⟩:=map_some d;simp_all;cases d
 case indexAddr t g i=>split at d;have ⟨_,_,d⟩:=zQ.1 d;have ⟨_,_,e⟩:=map_some d;simp_all;have ⟨_,_,d⟩:=zQ.1 d;have ⟨_,_,e⟩:=map_some d;simp_all;cases d
 case mapUpdate t m i g=>split at d;split at d;have ⟨_,_,e⟩:=map_some d;simp_all;cases d;cases d
 case call v=>
  have ⟨callee,args,H⟩:=v;cases callee with
  | invoke F m=>cases d
  | value f=>
   simp only at h d;split at d;rename_i C w;rw [w] at h;simp at h;split at d;have ⟨_,_,e⟩:=map_some d
   simp_all
   cases d;cases d
  | builtin b=>simp only at d;split at d;simp at h;split at d;have ⟨_,_,d⟩:=zQ.1 d;have ⟨_,_,e⟩:=map_some d;simp_all;cases d;have ⟨_,_,e⟩:=map_some d;simp_all;have ⟨_,_,e⟩:=map_some d;simp_all
theorem uO {a:TF} {o:Oper} (h:o.guard=none):jo J a o=some true:=by simp only [jo,h]
theorem pM (g:jr P A Pl dp X Good):∀(ps:List (Nat×aA)) (b:TF) (l s:ae) (c:aA) (k:KN X),Good (ik P A X K id J ps b l s c k)->
  ∃n x,dR P A (tc P A Pl dp n) K id X.fl J ps ⟨b,l,s,c⟩=some x/\Good (k x.τ x.l x.s):=by
 intro ps;induction ps with
 | nil=>intro b l s c k h;exact ⟨0,_,rfl,h⟩
 | cons p ps L=>
  intro b l s c k h;simp only [ik] at h;split at h;exact (g.bad h).elim;rename_i o H;cases z:VY P J p c o with
  | false=>rw [z] at h;exact (g.bad h).elim
  | true=>
   rw [z] at h;simp at h;have F:∀n v r l1 q,jo J b o=some true->dC P A (tc P A Pl dp n) (A.an K id p.1) X.fl o b l s=some (v,r,l1,q)->(p.2.all λj=>sw P A J X.fl c o (A.an K id p.1) b l s (dT r o.dst v) l1 q j)=true->Good (ik P A X K id J ps (dT r o.dst v) l1 q (Jk P J p c o) k)->
     ∃n x,dR P A (tc P A Pl dp n) K id X.fl J (p::ps) ⟨b,l,s,c⟩=some x/\Good (k x.τ x.l x.s):=by
    intro n v r l1 q i w d f;have ⟨m,x,t,C⟩:=L _ _ _ _ _ f;refine ⟨n+m,x,?_,C⟩;have a:=sr (jG (xT n m)) o b l s _ w;simp only [dR,jC,H,z,if_true,i,a,d,zR];exact nO (jG (wA m n)) ps _ _ t
   split at h;rename_i y;have ⟨n,v,r,l1,q,w,d⟩:=n4 g h;have ⟨f,t⟩:=g.rV d;exact F n v r l1 q (uO y) w f t;rename_i j b2 y;split at h;rename_i b1 D;cases E:gq P A (A.an K id p.1) b o with
   | false=>rw [E] at h;exact (g.bad h).elim
   | true=>
    rw [E] at h;simp at h;have M:jo J b o=some false->Good (ik P A X K id J ps (dT b o.dst (.tu [])) l s (Jk P J p c o) k)->∃n x,dR P A (tc P A Pl dp n) K id X.fl J (p::ps) ⟨b,l,s,c⟩=some x/\Good (k x.τ x.l x.s):=by intro i f;have ⟨m,x,t,C⟩:=L _ _ _ _ _ f;refine ⟨m,x,?_,C⟩;simp only [dR,jC,H,z,if_true,i,zR];exact t
    rcases g.gg h with ⟨i,d⟩|⟨R,N,i,d⟩|⟨i,d⟩;have ⟨n,v,r,l1,q,w,f⟩:=n4 g d;have e:=Hu E w;subst e;have ⟨f,t⟩:=g.rV f;exact F n v r l1 q (by simp only [jo,y,D,i,Nh,beq_self_eq_true]) w f t;refine M ?_ d;simp only [jo,y,D,i,Nh];simp [N];refine M ?_ d;simp only [jo,y,D,i];rfl
   exact (g.bad h).elim
theorem DN {f:TF}:∀(b:aA) (t:Nat),eg b (b.map f) t=if t∈b then f t else .u:=by
 intro b t;induction b with
 | nil=>rfl
 | cons a b c=>
  simp only [yS,eg];by_cases e:t=a;subst e;simp
  simp_all
theorem DK:∀(b:aA) (c:ao),a∉b->eg b c a= .u:=by
 intro b;induction b with
 | nil=>intro c _;unfold eg;rfl
 | cons d b e=>
  intro c h;cases c with
  | nil=>rfl
  | cons x c=>
   simp at h;simp only [eg,HP h.1,cond_false]
   grind
theorem DL (a:aA) (b:ao):eg a (a.map (eg a b))=eg a b:=by funext t;rw [DN];split;rfl;rename_i h;rw [DK a b h]
def JG (Good:X.R->Prop) (b:KN X) (a:Nat->KN X) (c:KN X) (r:TE):Prop:=match r.1 with
 | .normal=>Good (b r.2.1 r.2.2.1 r.2.2.2)
 | .exit i=>Good (a i r.2.1 r.2.2.1 r.2.2.2)
 | .ret=>Good (c r.2.1 r.2.2.1 r.2.2.2)
 | _=>False
theorem tB (C:jr P A Pl dp X Good) (b1:∀{b q l s},Good (X.lp b q l s)->∃n,Good (Wl X b n q l s)):∀(c:Code) (p:Nat) (g:TF) (l s:ae) (v:KN X) (j:Nat->KN X) (w:KN X),Good (ee P A Pl X K p c g l s v j w)->
  ∃n r,bN P A Pl (tc P A Pl dp n) n K X.fl p c g l s=some r/\JG Good v j w r:=by
 intro c;induction c with
 | skip=>intro p g l s v j w h;exact ⟨0,(.normal,g,l,s),rfl,h⟩
 | region id J c3=>intro p g l s v j w h;have ⟨n,x,f,d⟩:=pM C _ _ _ _ _ _ h;exact ⟨n,(.normal,x.τ,x.l,x.s),by simp only [bN,f,zM],d⟩
 | seq a b M R=>
  intro p g l s v j w h;simp only [ee] at h;have ⟨n,r,f,d⟩:=M _ _ _ _ _ _ _ h;have ⟨e,t,l1,o⟩:=r;cases e with
  | normal=>have ⟨m,r,F,H⟩:=R _ _ _ _ _ _ _ d;refine ⟨n+m,r,?_,H⟩;have x1:=iK (jG (xT n m)) (xT n m) a (2*p) g l s _ f;have x2:=iK (jG (wA m n)) (wA m n) b (2*p+1) t l1 o _ F;simp only [bN,x1];exact x2
  | exit i=>exact ⟨n,(.exit i,t,l1,o),by simp only [bN,f],d⟩
  | ret=>exact ⟨n,(.ret,t,l1,o),by simp only [bN,f],d⟩
  | _=>exact d.elim
 | cond x a b M R=>
  intro p g l s v j w h;simp only [ee,Q.br] at h;split at h;rename_i c2 ht;cases c2 with
  | true=>have ⟨n,r,f,d⟩:=M _ _ _ _ _ _ _ h;exact ⟨n,r,by simp only [bN,ht,CD,cond_true,f],d⟩
  | false=>have ⟨n,r,f,d⟩:=R _ _ _ _ _ _ _ h;exact ⟨n,r,by simp only [bN,ht,CD,cond_false,f],d⟩
  exact (C.bad h).elim
 | block id a L=>
  intro p g l s v j w h;have ⟨n,r,f,d⟩:=L _ _ _ _ _ _ _ h;have ⟨e,t,l1,o⟩:=r;cases e with
  | exit i=>
   cases E:Nat.beq i id with
   | true=>refine ⟨n,(.normal,t,l1,o),by simp only [bN,f,E,cond_true],?_⟩;have:Good (bif Nat.beq i id then v t l1 o else j i t l1 o):=d;rw [E] at this;exact this
   | false=>refine ⟨n,(.exit i,t,l1,o),by simp only [bN,f,E,cond_false],?_⟩;have:Good (bif Nat.beq i id then v t l1 o else j i t l1 o):=d;rw [E] at this;exact this
  | normal=>exact ⟨n,(.normal,t,l1,o),by simp only [bN,f],d⟩
  | ret=>exact ⟨n,(.ret,t,l1,o),by simp only [bN,f],d⟩
  | _=>exact d.elim
 | loop a L=>
  intro p g l s v j w h;have ⟨N,hN⟩:=b1 h;have b6:∀N (q:ao) (y z:ae),Good (Wl X (λk q y z=>(λk q l s=>ee P A Pl X K (2*p) a (eg (A.lv K p) q) l s (λg l s=>k ((A.lv K p).map g) l s) j w) (kc X l.length k) ((A.lv K p).map (eg (A.lv K p) q)) y z) N q y z)->
    ∃n m r,jD (λq l s=>bN P A Pl (tc P A Pl dp n) n K X.fl (2*p) a (eg (A.lv K p) q) l s) (A.lv K p) l.length m q y z=some r/\JG Good v j w r:=by
   intro N;induction N with
   | zero=>intro q y z h;exact (C.bad h).elim
   | succ N b2=>
    intro q y z h;simp only [Wl,KW] at h;rw [DL] at h;have ⟨n,r,f,d⟩:=L _ _ _ _ _ _ _ h;have ⟨e,t,l1,o⟩:=r;cases e with
    | normal=>have ⟨F,H⟩:=C.rV d;have ⟨D,m,r,h5,h6⟩:=b2 _ _ _ H;refine ⟨n+D,m+1,r,?_,h6⟩;have x1:=iK (jG (xT n D)) (xT n D) a (2*p) _ _ _ _ f;simp only [jD,x1,F,if_true];exact nR (λq l s=>iK (jG (wA D n)) (wA D n) a (2*p) _ l s) m m (zC _) _ _ _ _ h5
    | exit i=>exact ⟨n,1,(.exit i,t,l1,o),by simp only [jD,f],d⟩
    | ret=>exact ⟨n,1,(.ret,t,l1,o),by simp only [jD,f],d⟩
    | _=>exact d.elim
  have ⟨n,m,r,f,d⟩:=b6 N _ _ _ hN;refine ⟨n+m,r,?_,d⟩;simp only [bN];exact nR (λq l s=>iK (jG (xT n m)) (xT n m) a (2*p) _ l s) m (n+m) (wA m n) _ _ _ _ f
 | exit i=>intro p g l s v j w h;exact ⟨0,(.exit i,g,l,s),rfl,h⟩
 | ret=>intro p g l s v j w h;exact ⟨0,(.ret,g,l,s),rfl,h⟩
 | _=>intro p g l s v j w h;exact (C.bad h).elim
end
abbrev cL (X:CX):=Nat->List (LB X)->TF->RA X
def dP (P:aB) (A:An) (Pl:cQ) (X:CX) (K:Nat) (j:cL X):List (LB X)->Nat->Code->TF->ae->ae->KN X->(Nat->KN X)->KN X->X.R
 | _,_,.skip,d,l,s,e,_,_=>e d l s
 | _,_,.region h k m,d,l,s,e,_,_=>ik P A X K h k (if m=true then Pl (real K) h else nz k.size) d l s [] e
 | x,p,.seq a b,d,l,s,e,f,g=>dP P A Pl X K j x (2*p) a d l s (λd l s=>dP P A Pl X K j x (2*p+1) b d l s e f g) f g
 | x,p,.cond c a b,d,l,s,e,f,g=>Q.br (aS d c) (λl s=>dP P A Pl X K j x (2*p) a d l s e f g) (λl s=>dP P A Pl X K j x (2*p+1) b d l s e f g) l s
 | x,p,.block h c,d,l,s,e,f,g=>dP P A Pl X K j x (2*p) c d l s e (λi d l s=>bif Nat.beq i h then e d l s else f i d l s) g
 | x,p,.loop _,d,l,s,_,_,_=>j p x d l s
 | _,_,.exit h,d,l,s,_,f,_=>f h d l s
 | _,_,.ret,d,l,s,_,_,g=>g d l s
 | _,_,_,_,_,_,_,_,_=>X.bad
def iD:Code->Bool
 | .seq a b=>iD a&&iD b
 | .cond _ a b=>iD a&&iD b
 | .block _ c=>iD c
 | .loop _=>false
 | _=>true
section
variable {P:aB} {A:An} {Pl:cQ} {dp:Nat->Bool} {X:CX} {Good:X.R->Prop} {K:Nat} {Λ:cL X}
inductive kx (P:aB) (A:An) (Pl:cQ) (X:CX) (K:Nat) (Λ:cL X):List (LB X)->Nat->Code->KN X->(Nat->KN X)->KN X->Prop
 | leaf {x p c kn ke kr}:iD c->kx P A Pl X K Λ x p c kn ke kr
 | seq {x p a b kn ke kr}:kx P A Pl X K Λ x (2*p) a (λτ l s=>dP P A Pl X K Λ x (2*p+1) b τ l s kn ke kr) ke kr->kx P A Pl X K Λ x (2*p+1) b kn ke kr->kx P A Pl X K Λ x p (.seq a b) kn ke kr
 | cond {x p c a b kn ke kr}:kx P A Pl X K Λ x (2*p) a kn ke kr->kx P A Pl X K Λ x (2*p+1) b kn ke kr->kx P A Pl X K Λ x p (.cond c a b) kn ke kr
 | block {x p id c kn ke kr}:kx P A Pl X K Λ x (2*p) c kn (λi τ l s=>bif Nat.beq i id then kn τ l s else ke i τ l s) kr->kx P A Pl X K Λ x p (.block id c) kn ke kr
 | loop {x p c kn ke kr} (lv:aA) (b:LB X->LB X):A.lv K p=lv->(∀k τ l s,dP P A Pl X K Λ (k::x) (2*p) c (eg lv (lv.map τ)) l s (λτ l s=>k (lv.map τ) l s) ke kr=b k (lv.map τ) l s)->(∀τ l s,Q.lp lv b (lv.map τ) l s=Λ p x τ l s)->
   (∀k:LB X,kx P A Pl X K Λ (k::x) (2*p) c (λτ l s=>k (lv.map τ) l s) ke kr)->kx P A Pl X K Λ x p (.loop c) kn ke kr
theorem H9:∀(c:Code),iD c->∀x p g l s e d f,ee P A Pl X K p c g l s e d f=dP P A Pl X K Λ x p c g l s e d f:=by
 intro c;induction c with
 | seq a b i j=>intro h x p g l s e d f;simp only [iD,zN] at h;simp only [ee,dP,i h.1 x (2*p),j h.2 x (2*p+1)]
 | cond c a b i j=>intro h x p g l s e d f;simp only [iD,zN] at h;simp only [ee,dP,i h.1 x (2*p),j h.2 x (2*p+1)]
 | block m a k=>intro h x p g l s e d f;simp only [iD] at h;simp only [ee,dP,k h x (2*p)]
 | loop a k=>intro h;cases h
 | _=>intro _ x p g l s e d f;rfl
theorem kx.eq {x:List (LB X)} {c:Code} {i g j} (h:kx P A Pl X K Λ x a c i g j):∀d l s,ee P A Pl X K a c d l s i g j=dP P A Pl X K Λ x a c d l s i g j:=by
 induction h with
 | leaf h=>intro d l s;exact H9 _ h _ _ _ _ _ _ _ _
 | seq n q f m=>intro d l s;rename_i r b i g j;have e:=funext λd=>funext λl=>funext λs=>m d l s;simp only [ee,dP];rw [e,f]
 | cond n q f m=>intro d l s;simp only [ee,dP,f,m]
 | block n f=>intro d l s;simp only [ee,dP,f]
 | loop y b o t p v w=>
  intro d l s;simp only [ee,dP];rw [o,<-p];unfold Q.lp
  simp_all
def n5 (P:aB) (X:CX) (r:ResultVar) (k:TV->TF->RA X):KN X:=λb l s=>match r with
 | .tmp t=>k (b t) (dN b (.tmp t)) l s
 | .cell a t=>match res P t with
  | some (g,n)=>Q.lt g n (b a) (λv=>k v b) l s
  | none=>X.bad
def gP (P:aB) (X:CX) (a:List ResultVar) (k:TV->ae->X.R):KN X:=match a with
 | []=>λ_ _ s=>k (.tu []) s
 | [r]=>n5 P X r λv _ _ s=>k v s
 | [r,q]=>n5 P X r λx=>n5 P X q λy _ _ s=>k (.tu [x,y]) s
 | [r,q,t]=>n5 P X r λx=>n5 P X q λy=>n5 P X t λz _ _ s=>k (.tu [x,y,z]) s
 | _=>λ_ _ _=>X.bad
theorem ed (c:jr P A Pl dp X Good) {b:ResultVar} {k:TV->TF->RA X} {e:TF} (h:Good (n5 P X b k e r s)):∃v f l1 d,eI P X.fl e r s b=some (v,f,l1,d)/\Good (k v f l1 d):=by
 cases b with
 | tmp t=>exact ⟨_,_,_,_,rfl,h⟩
 | cell a t=>simp only [n5] at h;split at h;rename_i g n l;have ⟨p,i,j⟩:=c.bd h;exact ⟨_,_,_,_,by simp only [eI,l,i,zM],j⟩;exact (c.bad h).elim
theorem oM (a:jr P A Pl dp X Good) {f:List ResultVar} {k:TV->ae->X.R} {j:TF} (h:Good (gP P X f k j r s)):∃e g,uR P X.fl f j r s=some (e,g)/\Good (k e g):=by
 unfold gP at h;unfold uR;split at h
 grind
 have ⟨v,l,l1,i,c,b⟩:=ed a h
 grind
 have ⟨v,l,l1,i,c,b⟩:=ed a h;have ⟨w,p,n,o,m,d⟩:=ed a b
 grind
 have ⟨v,l,l1,i,c,b⟩:=ed a h;have ⟨w,p,n,o,m,d⟩:=ed a b;have ⟨z,C,x,y,q,t⟩:=ed a d
 grind
 exact (a.bad h).elim
def qw (P:aB) (A:An) (Pl:cQ) (X:CX) (K:Nat) (a:Func) (c:Code) (b:ao) (k:TV->ae->X.R) (s:ae):X.R:=
 ee P A Pl X K 1 c (aI b) [] s (gP P X a.results.toList k) (λ_ _ _ _=>X.bad) (gP P X a.results.toList k)
theorem kx.body {a:Func} {c:Code} {k:TV->ae->X.R} (h:kx P A Pl X K Λ [] 1 c (gP P X a.results.toList k) (λ_ _ _ _=>X.bad) (gP P X a.results.toList k)) (s:ae):
  qw P A Pl X K a c o k s=dP P A Pl X K Λ [] 1 c (aI o) [] s (gP P X a.results.toList k) (λ_ _ _ _=>X.bad) (gP P X a.results.toList k):=h.eq _ _ _
theorem n7 (f:jr P A Pl dp X Good) (t:∀{b s l r},Good (X.lp b s l r)->∃n,Good (Wl X b n s l r)) {p:Func} {c:Code} {k:TV->ae->X.R} (h:Good (qw P A Pl X K p c o k r)):
  ∃n g a,kB P A Pl (tc P A Pl dp n) n K p c o r X.fl=some (g,a)/\Good (k g a):=by
 have ⟨n,g,q,d⟩:=tB f t _ _ _ _ _ _ _ _ h;have ⟨e,x,l1,w⟩:=g;cases e with
 | normal=>have ⟨v,a,j,m⟩:=oM f d;exact ⟨n,v,a,by simp only [kB,q];exact j,m⟩
 | ret=>have ⟨v,a,j,m⟩:=oM f d;exact ⟨n,v,a,by simp only [kB,q];exact j,m⟩
 | exit i=>exact (f.bad d).elim
 | _=>exact d.elim
end
def Ends (P:aB) (A:An) (Pl:cQ) (dp:Nat->Bool) (K:Nat) (c:ao) (s:ae) (b:Nat) (k:jw):Prop:=∃n r a,tc P A Pl dp n K c s b=some (r,a)/\k r a
def Wr {R:Type} (bad:R) (w:TV) (b:Bool) (st:(TV->ae->ae->R)->ae->ae->R) (k:TV->ae->ae->R) (l s:ae):R:=match w with
 | .v (.bool a)=>bif a==b then st k l s else k (.tu []) l s
 | .tu []=>k (.tu []) l s
 | _=>bad
abbrev XP (P:aB) (A:An) (Pl:cQ) (dp:Nat->Bool) (a:Nat) (rt:jw):CX:={
 R:=Prop
 bad:=False
 cl:=Ends P A Pl dp
 gg:=Wr False
 lp:=λb c l s=>∃n,KW False b n c l s
 fl:=a
 rt:=rt
 P:=P}
section
variable {P:aB} {A:An} {Pl:cQ} {dp:Nat->Bool} {fl K:Nat}
theorem qv {R:Type} {bad:R} (Good:R->Prop) (b:¬Good bad) {st:(TV->ae->ae->R)->ae->ae->R} {k:TV->ae->ae->R} (h:Good (Wr bad x q st k r s)):
  (x= .v (.bool q)/\Good (st k r s))\/(∃a,a≠q/\x= .v (.bool a)/\Good (k (.tu []) r s))\/(x= .tu []/\Good (k (.tu []) r s)):=by
 unfold Wr at h;split at h;rename_i a;cases q <;> cases a
 simp_all
 simp_all
 simp_all
 simp_all
 simp_all
 simp_all
theorem XP.sound {rt:jw}:jr P A Pl dp (XP P A Pl dp fl rt) (λr=>r):=⟨λh=>h,λh=>h,λh=>qv (λr:Prop=>r) (λh=>h) h⟩
def Rt (A:An) (K:Nat) (s:ae) (k:jw) (b:TV) (c:ae):Prop:=∃r a,jq (A.rw K) (A.aM K) s (some (b,c))=some (r,a)/\k r a
theorem Ends.of {a:Func} {c:Code} {k:jw} (i:dp K) (f:P.funcs[real K]? =some a) (e:a.body=some c) (g:o.length<=a.ntmps)
  (h:qw P A Pl (XP P A Pl dp (bif A.rw K then fl else r.length) (Rt A K r k)) K a c o (Rt A K r k) r):Ends P A Pl dp K o r fl k:=by
 obtain ⟨n,q,s,b,j,l,m,d⟩:=n7 XP.sound (λh=>h) h;have b:=b;refine ⟨n+1,j,l,?_,d⟩;have p:=nW (nU (Nat.le_succ n) n n (zC n)) (Nat.le_succ n) _ b;simp only [tc,gY,i,if_true,f,e,g]
 grind
theorem Ends.iN {f:ao->ae->Nat->Option (TV×ae)} {a:ae} {r:TV} {k:jw} (d:dp K=false) (b:A.tp K=some f) (h:f o s fl=some (r,a)) (c:k r a):Ends P A Pl dp K o s fl k:=by
 refine ⟨1,r,a,?_,c⟩;simp only [tc,gY,d,b]
 grind
theorem Ends.mono {k c:jw} (h:Ends P A Pl dp K o r fl k) (f:∀a b,k a b->c a b):Ends P A Pl dp K o r fl c:=by obtain ⟨n,a,b,d,e⟩:=h;exact ⟨n,a,b,d,f a b e⟩
end
end T
namespace V
open Go
variable {a b c d e f g:Nat} {u v w:Value} {i j k:Int} {t:TypeId} {p:List Value} {q:Bool} {n:IntKind}
def pL (sz a:Nat):Bool:=match gw sz with
 | some (_,o,_)=>Nat.beq o a
 | none=>false
def iT (b a:Nat) (H:AH):Option AH:=match H[b]? with
 | some (.row c sz (some 0))=>if pL sz a=true then match c[a]? with
   | some (.pointer none)=>some (H.set b (.row (cr c a [.pointer (some ⟨b,a,none⟩)]) sz (some 0)))
   | some (.pointer (some ⟨d,e,none⟩))=>if d=b/\e=a then some H else none
   | _=>none
  else none
 | _=>none
def N8 (b k:Nat) (v:aq) (H:AH):Option AH:=match H[b]? with
 | some (.row a sz (some 0))=>if k<a.length/\one v=true then some (H.set b (.row (cr a k [v]) sz (some 0))) else none
 | _=>none
def zr:aq->Bool
 | .slice (some _) 0 (_+1)=>true
 | _=>false
def pA (P:aB) (c:aP) (a b:Nat) (y:aq) (H:AH):Option AH:=
 match H[a]? with
 | some (.row _ sz (some 0))=>if pL sz b=true then (cV P 77 (.pointer (some ⟨a,b+1,none⟩)) H).bind λx=>if zr x=true then none else (cC P 77 c x y H).bind λp=>N8 a (b+1) p.1 p.2 else none
 | _=>none
def H0 (b:aQ) (H:AH):Option (aq×AH):=match b with
 | [.pointer (some ⟨c,d,none⟩)]=>(iT c d H).map λa=>(undef,a)
 | _=>none
def H5 (P:aB) (e:aQ) (H:AH):Option (aq×AH):=match e with
 | [.pointer (some ⟨a,b,none⟩),.string t]=>(iT a b H).bind λc=>(pA P 9 a b (.string t) c).map λd=>(.tuple #[.int .i64 t.size,.nilIface],d)
 | _=>none
def H4 (P:aB) (f:aQ) (H:AH):Option (aq×AH):=match f with
 | [.pointer (some ⟨a,b,none⟩),.int .u8 c]=>(iT a b H).bind λd=>(fN P 77 1 [(0,.int .u8 c)] d).bind λq=>(pA P 77 a b q.1 q.2).map λe=>(.nilIface,e)
 | _=>none
def Ii:aQ->Option (List UInt8)
 | []=>some []
 | .int .u8 n::l=>if 0<=n/\n<256 then (Ii l).map (UInt8.ofNat n.toNat:: ·) else none
 | _=>none
theorem JU:∀(C:aQ) (bs:List UInt8),Ii C=some bs->C=bs.map λb=>.int .u8 b.toNat:=by
 intro C;induction C with
 | nil=>intro bs h;cases h;rfl
 | cons c C f=>
  intro bs h;unfold Ii at h;split at h;rename_i e;cases e;rename_i n l e;cases e;split at h;rename_i g;cases a:Ii C with
  | none=>rw [a] at h;cases h
  | some d=>rw [a] at h;cases h;rw [yS,<-f d a];congr 2;have:n.toNat<256:=O;simp [Nat.mod_eq_of_lt this];omega
  cases h;cases h
def DI (P:aB) (d:aQ) (H:AH):Option (aq×AH):=match d with
 | [.pointer (some ⟨a,c,none⟩)]=>match H[a]? with
  | some (.row _ sz (some 0))=>if pL sz c=true then match cV P 77 (.pointer (some ⟨a,c+1,none⟩)) H with
    | some (.slice (some ⟨b,0,none⟩) n 1)=>match H[b]? with
     | some (.row C z (some _))=>if C.length=n/\n≠0/\b≠a/\n<=4611686018427387904 then (Ii C).map λbs=>(.string ⟨bs.toArray⟩,H.set b (.row C z none)) else none
     | _=>none
    | _=>none
   else none
  | _=>none
 | _=>none
end V
namespace T
open Go V
variable {a b c d e f g:Nat} {u v w:Value} {i j k:Int} {t:TypeId} {p:List Value} {q:Bool} {n:IntKind}
def lG (a b:Nat) (s:ae) (d:Nat):Option (ae):=match s[a]? with
 | some (.row c z)=>if pL z b=true/\Nat.ble d a=true then match c[b]? with
   | some (.v (.pointer none))=>some (s.set a (.row (eP c b [.p true a b]) z))
   | some (.p true e f)=>if e=a/\f=b then some s else none
   | _=>none
  else none
 | _=>none
def sO (b d:Nat) (c:cD) (s:ae) (f:Nat):Option (ae):=match s[b]? with
 | some (.row e z)=>match e[d+1]? with
  | some (.sl true a)=>if pL z d=true/\cR 0 1 c/\cR 0 1 a/\fits (a.length+c.length) 1/\Nat.ble f b=true then some (s.set b (.row (e.set (d+1) (.sl true (a++c))) z)) else none
  | _=>none
 | _=>none
def Co (e:ao) (s:ae) (a:Nat):Option (TV×ae):=match e with
 | [.p true b c]=>(lG b c s a).map λd=>(.tu [],d)
 | _=>none
def y0 (g:ao) (s:ae) (a:Nat):Option (TV×ae):=match g with
 | [.p true c d,.v (.string t)]=>(lG c d s a).bind λe=>(sO c d (t.data.toList.map λb=>[.v (.int .u8 b.toNat)]) e a).map λf=>(.tu [.v (.int .i64 t.size),.v .nilIface],f)
 | _=>none
def xz (g:ao) (s:ae) (a:Nat):Option (TV×ae):=match g with
 | [.p true b d,.v (.int .u8 c)]=>(lG b d s a).bind λe=>(sO b d [[.v (.int .u8 c)]] e a).map λf=>(.v .nilIface,f)
 | _=>none
def K9:cD->Option (List UInt8)
 | []=>some []
 | [.v (.int .u8 n)]::l=>if 0<=n/\n<256 then (K9 l).map (UInt8.ofNat n.toNat:: ·) else none
 | _=>none
def sy (g:ao) (s:ae) (f:Nat):Option (TV×ae):=match g with
 | [.p true b c]=>match s[b]? with
  | some (.row d z)=>match d[c+1]? with
   | some (.sl true (e::a))=>if pL z c=true/\Nat.ble f b/\(e::a).length<=4611686018427387904 then (K9 (e::a)).map λbs=>(.v (.string ⟨bs.toArray⟩),s.set b (.row (d.set (c+1) (.sl false (e::a))) z)) else none
   | _=>none
  | _=>none
 | _=>none
section
variable {X:Nat->Prop} {D E:aH} {M J:Nat->Prop} {H h:AH} {ω ω':Nat->Option Loc} {P:aB} {fl:Nat} {τ τ':TF} {l s l' s':ae} {V:aQ}
theorem St.fin (h:St X D ω fl H τ l s V) {r:TV} (d:TR D (Mu X D l s) H r u) (c:NO r u):St X D ω fl H (aI [r]) l s [u]:={
 tm:=λt=>by
  cases t with
  | zero=>exact d
  | succ t=>exact .u
 ow:=λt=>by
  cases t with
  | zero=>exact c.own _
  | succ t=>exact λi j e a n b _=>by cases i <;> cases j <;> simp [aI,eG,iG] at b
 ob:=h.ob
 lt:=h.lt
 fA:=h.fA
 mJ:=h.mJ
 xl:=h.xl
 xo:=h.xo}
theorem oE (h:St X D ω fl H τ l s V) (m:D true a 0=some c) {t:ae} (d:lG a b s fl=some t):∃q ω',iT c b H=some q/\St X D ω' fl q τ l t V/\Xt X fl D ω H l s D ω' q l t:=by
 unfold lG at d;split at d;rename_i cs c4 z;split at d;rename_i K;have ⟨N,J⟩:=K;have ⟨_,b1,C,w,x,g,_⟩:=h.ob true a _ z;rw [m] at w;cases w;unfold iT;simp only [x,N,if_true];split at d;rename_i i;cases d;have M:=ab i;have f:C[b]? =some (C[b]'(Zo g.1)):=zA _;have k:=g.2 b _ _ i f;generalize C[b]'(Zo g.1)=b2 at f k;cases k with
 | v _ _=>rw [f];have ⟨b1,C',ω',A,E,k3,k4,k5,P,R⟩:=h.v7 (r:=true) (n:=1) (off:=b) (x':=.pointer (some ⟨c,b,none⟩)) z J rfl O rfl (.p m) none (λj es ad c2 F _=>by cases j <;> simp [eG,iG] at F) (λc3=>.inl ⟨λe=>(by cases e),rfl⟩);rw [m] at A;cases A;rw [x] at E;cases E;exact ⟨_,ω',rfl,P,R⟩
 rename_i b6 o i;split at d;rename_i L;obtain ⟨rfl,rfl⟩:=L;cases d;have M:=ab i;have f:C[o]? =some (C[o]'(Zo g.1)):=zA _;have k:=g.2 o _ _ i f;generalize C[o]'(Zo g.1)=b2 at f k;cases k with
 | p y=>rw [m] at y;cases y;rw [f];exact ⟨H,ω,Z,h,Xt.refl⟩
 cases d;cases d;cases d;cases d
end
end T
namespace T
open Go V
variable {a b c d e f g:Nat} {u v w:Value} {i j k:Int} {t:TypeId} {p:List Value} {q:Bool} {n:IntKind} {x y z:TV} {r s:List TO} {o:List TV}
structure NL (P:aB):Prop where
 G0:P.underlying 77=some (.slice 5)
 u5:P.underlying 5=some (.int .u8)
 u9:P.underlying 9=some .string
 i5:∃ei zv,P.info? 5=some ei/\ei.size=1/\ei.bytes=1/\ei.zero=some zv/\zv= .int .u8 0
 Yy:res P 77=some (false,1)
section
variable {X:Nat->Prop} {D E:aH} {M J:Nat->Prop} {H h:AH} {ω ω':Nat->Option Loc} {P:aB} {fl:Nat} {τ τ':TF} {l s l' s':ae} {V:aQ}
theorem jd {c:Type} (l:List c) (i:Nat) (a b:c):(l.set i a).set i b=l.set i b:=xU ..
theorem zb (F:NL P) (b6:St X D ω fl H τ l s V) {m j k:Nat} (J:D true a 0=some c) (hj:j<V.length) (hk:k<V.length) (c3:m≠j) (g3:j≠k) {g:cD} (hy:∀l s,aO l s (τ m)=some g) {d1:TypeDesc} (d7:P.underlying t=some d1) (d6:vP d1)
  {s1:ae} (i:sO a b g s fl=some s1):∃A c8 b2 f5 V1,pA P t c b (V.getD m undef) H=some A/\St X c8 b2 fl A f5 l s1 V1/\Xt X fl D ω H l s c8 b2 A l s1:=by
 unfold sO at i;split at i;rename_i h z M;split at i;rename_i f c2;split at i;rename_i hc;have ⟨hm,e1,e2,e3,hb⟩:=hc;have ⟨_,g8,C0,x,E,_⟩:=b6.ob true a _ M;rw [J] at x;cases x;cases i;obtain ⟨w,zv,d4,c7,d3,d8,rfl⟩:=F.i5;have d5:=ab M;have g4:=ab c2;have ht:gW false 1 fl l s (.p true a (b+1))=some (.sl true f,l,s.set a (.row (eP h (b+1) [.sl false f]) z)):=by simp only [gW,T.ob,cond_true,M,part,cond_false,c2,zM,ce,yS,xX,dX,put];exact zP hb
 have ⟨v,b2,q1,q2,q3⟩:=b6.take F.Yy ht (.p J) (some j) (λ_ e=>by cases e;exact hj);have c4:(s.set a (.row (eP h (b+1) [.sl false f]) z))[a]? =some (.row (eP h (b+1) [.sl false f]) z):=zF d5;generalize c6:s.set a (.row (eP h (b+1) [.sl false f]) z)=o at q2 q3 c4;have tj:dT τ (some j) (.sl true f) j= .sl true f:=cj _ _ _;have tm:dT τ (some j) (.sl true f) m=τ m:=sq _ _ c3;have vj:(bZ V (some j) v).getD j undef=v:=n6 hj v;have vm:(bZ V (some j) v).getD m undef=V.getD m undef:=by show (V.set j v).getD m undef=_;simp;rw [zE (Ne.symm c3)]
 have ta:cq (qo 77) w.size w.bytes 0 fl (aS (dT τ (some j) (.sl true f)) (.tmp j)) (aS (dT τ (some j) (.sl true f)) (.tmp m)) l o=some (.sl true (f++g),l,o):=by show cq false w.size w.bytes 0 fl (dT τ (some j) (.sl true f) j) (dT τ (some j) (.sl true f) m) l o=_;rw [tj,tm,c7,d3];simp only [cq,hy,and_self,or_true,true_and,db];rw [zP ⟨e1,e2,e3,O⟩];split;rename_i h0;rw [h0];rfl
 have K:(bZ V (some j) v).length=V.length:=xH ..;have ⟨p,H2,f4,g9,r1,q,r3,_⟩:=bV.app (ty:=0) q2 (d:=some k) (λ_ e=>by cases e;rw [K];exact hk) F.G0 d7 d6 d4 d8 c7.symm O rfl rfl ta;have r1:cC P 77 t v (V.getD m undef) H=some (p,H2):=by rw [<-r1];show _=cC P 77 t ((bZ V (some j) v).getD j undef) ((bZ V (some j) v).getD m undef) H;rw [vj,vm]
 have d9:zr v=false:=by
  have N:=q2.tm j;rw [tj,vj] at N;generalize R:TV.sl true f=z0 at N;cases N with
  | sn=>rfl
  | s0=>rfl
  | se=>cases R
  | @sl g6 d2 _ _ _ _ _ _ _ _ _ L _=>
   cases R;cases f with
   | nil=>exact absurd rfl (L rfl)
   | cons _ _=>rfl
  | _=>first|rfl|cases R
 generalize g5:dN (dT τ (some j) (.sl true f)) (.tmp j)=b1 at q;generalize f8:bZ V (some j) v=V2 at q K;have tk:dT b1 (some k) (.sl true (f++g)) k= .sl true (f++g):=cj _ _ _;have vk:(bZ V2 (some k) p).getD k undef=p:=n6 (by rw [K];exact hk) p;have y:=q.tm k;simp only [tk,vk] at y;have c5:one p/\p.cells.toList=[p]:=by generalize f9:f++g=d2 at y;cases y <;> exact ⟨rfl,rfl⟩
 obtain ⟨g7,f7,f6,k1,k2,k3,k4,k5,k6,k7⟩:=q.v7 (r:=true) (n:=1) (off:=b+1) c4 hb rfl (by rw [ja];omega) rfl y (some k) (λe6 c9 ad n' f1 f2=>by
   have ⟨x,E⟩:=q.ow k 0 e6 c9 ad n' (by rw [tk];exact f1) (by rw [vk];exact f2);exact ⟨k,rfl,x,E⟩) (λf3=>by
   rcases aL (dT b1 (some k) (.sl true (f++g))) k f3 (bw (dT b1 (some k) (.sl true (f++g)) k)) with ⟨rfl,e⟩|⟨L,e⟩;exact .inr ⟨_,e,q.tm _⟩;exact .inl ⟨λe'=>L (by cases e';rfl),e⟩)
 rw [r3.qp _ _ _ _ J] at k1;cases k1;refine ⟨_,f4,f6,_,_,?_,(by
  have e:(T.put l o true a (.row (eP (eP h (b+1) [.sl false f]) (b+1) (ce (.sl true (f++g)))) z)).2=s.set a (.row (h.set (b+1) (.sl true (f++g))) z):=by show o.set a _=_;rw [<-c6,jd];exact yH (λC=>s.set a (TO.row C z)) (jd h (b+1) _ _)
  rw [e] at k6;exact k6),(by
  have e:(T.put l o true a (.row (eP (eP h (b+1) [.sl false f]) (b+1) (ce (.sl true (f++g)))) z)).2=s.set a (.row (h.set (b+1) (.sl true (f++g))) z):=by show o.set a _=_;rw [<-c6,jd];exact yH (λC=>s.set a (TO.row C z)) (jd h (b+1) _ _)
  rw [e] at k7;exact (q3.trans r3).trans k7)⟩
 unfold pA;simp only [E,hm,if_true,q1,zR,d9,xA,if_false,r1,N8,k2];rw [zP ⟨by have:=k3;rw [ja] at this;omega,c5.1⟩,c5.2];cases i;cases i;cases i
end
def s5 (f:ao->ae->Nat->Option (TV×ae)) (g:aQ->AH->Option (aq×AH)):Prop:=
 ∀(c:ao) (s:ae) (a:Nat) (r:TV) (d:ae),f c s a=some (r,d)->∀(X:Nat->Prop) (h:aH) (j:Nat->Option Loc) (H:AH) (e:aQ),St X h j a H (aI c) [] s e->e.length=c.length->
  ∃v b i k,g e H=some (v,b)/\St X i k a b (aI [r]) [] d [v]/\Xt X a h j H [] s i k b [] d
section
variable {X:Nat->Prop} {D E:aH} {M J:Nat->Prop} {H h:AH} {ω ω':Nat->Option Loc} {P:aB} {fl:Nat} {τ τ':TF} {l s l' s':ae} {V:aQ}
theorem bind_some {b d:Type} {o:Option b} {f:b->Option d} {c:d} (h:o.bind f=some c):∃a,o=some a/\f a=some c:=by
 cases o with
 | none=>cases h
 | some a=>exact ⟨a,rfl,h⟩
theorem OW:s5 Co H0:=by
 intro q s fl r s' b X D ω H o h g;unfold Co at b;split at b;rename_i t j;have ⟨v,i,e⟩:=map_some b;cases e;match o,g with
 | [a],_=>
  have d:=h.tm 0;cases d with
  | @p _ _ _ n f=>have ⟨c,ω',k,l,m⟩:=oE h f i;refine ⟨undef,c,D,ω',?_,l.fin r9 oy,m⟩;show (iT n j H).map _=_;rw [k];rfl
 cases b
theorem OY (w:NL P):s5 y0 (H5 P):=by
 intro b2 s fl c4 s' b X D ω H N h C;unfold y0 at b;split at b;rename_i id d t;have ⟨s1,E,b⟩:=bind_some b;have ⟨s2,F,e⟩:=map_some b;cases e;match N,C with
 | [a,b6],_=>
  have z:=h.tm 0;have A:=h.tm 1;cases A with
  | v _ _=>
   cases z with
   | @p _ _ _ f y=>
    have ⟨q,c7,J,n,K⟩:=oE h y E;have n:=n.congr (V':=[.pointer (some ⟨f,d,none⟩),.string t]++List.replicate 2 undef) (dx _ _);have ⟨r,R,b1,c6,V2,o,L,M⟩:=zb (m:=1) (j:=2) (k:=3) w n y Z Z O O (λl s=>rfl) w.u9 rfl F;refine ⟨.tuple #[.int .i64 t.size,.nilIface],r,R,b1,?_,L.fin ?_ ?_,K.trans M⟩;show (iT f d H).bind _=_;rw [J];show (pA P 9 f d (.string t) q).map _=_;have o:pA P 9 f d (.string t) q=some r:=o;rw [o];rfl;refine .tu rfl λj c5 c2 g x=>?_;match j with
    | 0=>cases g;cases x;exact .v rfl rfl
    | 1=>cases g;cases x;exact .v rfl rfl
    | j+2=>cases g
    intro i j es a c3 c _;match i,j with
    | 0,0=>cases c
    | 0,j+1=>cases c
    | 1,0=>cases c
    | 1,j+1=>cases c
    | i+2,j=>cases c
 cases b
theorem I2 (a:NL P) (c:Int) (H:AH):fN P 77 1 [(0,.int .u8 c)] H=some (.slice (some ⟨H.length,0,none⟩) 1 (eS 1),H++[.row [.int .u8 c] 1 (some 0)]):=by obtain ⟨f,h,b,d,g,e,rfl⟩:=a.i5;simp [fN,a.G0,b,e,d,Value.cells,ak,Instr.fill,one]
theorem OX (n:NL P):s5 xz (H4 P):=by
 intro c2 s fl c4 s' a X D ω H vs h L;unfold xz at a;split at a;rename_i id b c;have ⟨s1,M,a⟩:=bind_some a;have ⟨s2,N,e⟩:=map_some a;cases e;match vs,L with
 | [b6,c3],_=>
  have J:=h.tm 0;have K:=h.tm 1;cases K with
  | v _ _=>
   cases J with
   | @p _ _ _ f y=>
    have ⟨w,c9,q1,r,q3⟩:=oE h y M;have r:=r.congr (V':=[.pointer (some ⟨f,b,none⟩),.int .u8 c]++List.replicate 3 undef) (dx _ _);have ⟨t,C,c7,d1,R,o,z,_⟩:=bV.db r (d:=some 4) (q:=false) (an:=0) (es:=[[.v (.int .u8 c)]]) (λ_ e=>by cases e;simp) (I2 n c w) rfl ⟨rfl,rfl,λi j e c5 c6 g x F=>by
     match i,j with
     | 0,0=>cases g;cases x;cases F;exact .v rfl rfl
     | 0,j+1=>cases g;cases x
     | i+1,j=>cases g⟩ Z
    have o:=o;have e4:(bZ ([.pointer (some ⟨f,b,none⟩),.int .u8 c]++List.replicate 3 undef) (some 4) t).getD 4 undef=t:=rfl;have ⟨E,b1,b2,c8,V3,A,r2,r3⟩:=zb (m:=4) (j:=2) (k:=3) n o (z.qp _ _ _ _ y) (by simp [bZ]) (by simp [bZ]) O O (λl s=>rfl) n.G0 rfl N;rw [e4] at A;refine ⟨.nilIface,E,b1,b2,?_,r2.fin (.v rfl rfl) (.one (λ_ e=>by cases e) (λ_ e=>by cases e) (λ_ e=>by cases e)),(q3.trans z).trans r3⟩;show (iT f b H).bind _=_;rw [q1];show (fN P 77 1 [(0,.int .u8 c)] w).bind _=_;rw [R];show (pA P 77 f b t C).map _=_;rw [A];rfl
 cases a
theorem K8:∀(a:cD) (C:aQ) (bs:List UInt8),K9 a=some bs->C.length=a.length->(∀(i j:Nat) (e:ao) (x:TV) (c:aq),a[i]? =some e->e[j]? =some x->C[i+j]? =some c->TR D M H x c)->Ii C=some bs:=by
 intro a;induction a with
 | nil=>intro C bs h b _;have:=zK b;subst this;exact h
 | cons e a t=>
  intro C bs h b f;cases C with
  | nil=>simp at b
  | cons c C=>
   unfold K9 at h;split at h;rename_i d;cases d;rename_i n l d;cases d;split at h;rename_i s;obtain ⟨g,q,rfl⟩:=map_some h;have r:=f 0 0 _ _ _ rfl rfl rfl;cases r with
   | v _ _=>have:=t C g q (Zs b) (λi j e x k m o p=>f (i+1) j e x k (Zs m) o (by rw [show i+1+j=(i+j)+1 by omega,List.getElem?_cons_succ];exact p));simp [Ii,this,s]
   cases h;cases h
theorem OZ (hB:NL P):s5 sy (DI P):=by
 intro d6 s fl f2 s' a X D ω H vs h hl;unfold sy at a;split at a;rename_i j g;split at a;rename_i J d2 o;split at a;rename_i e b A;split at a;rename_i hc;have ⟨hm,hb,b1⟩:=hc;have ⟨bs,f,K⟩:=map_some a;cases K;match vs,hl with
 | [d5],_=>
  have ha:=h.tm 0;cases ha with
  | @p _ _ _ x n=>
   have h:=h.congr (V':=[.pointer (some ⟨x,g,none⟩)]++List.replicate 2 undef) (dx _ _);have ⟨d9,f4,d4,z,h2,h3,h4,h5⟩:=h.ob true j _ o;rw [n] at z;cases z;have b2:=ab o;have d8:=ab A;have ht:gW false 1 fl [] s (.p true j (g+1))=some (.sl true (e::b),[],s.set j (.row (eP J (g+1) [.sl false (e::b)]) d2)):=by simp only [gW,T.ob,cond_true,o,part,cond_false,A,zM,ce,yS,xX,dX,put];exact zP hb
   have ⟨v,d3,q1,r,q3⟩:=h.take hB.Yy ht (.p n) (some 2) (λ_ e=>by cases e;simp);have t:dT (aI [.p true j g]) (some 2) (.sl true (e::b)) 2= .sl true (e::b):=cj _ _ _;have w:(bZ ([.pointer (some ⟨x,g,none⟩)]++List.replicate 2 undef) (some 2) v).getD 2 undef=v:=rfl;have E:=r.tm 2;rw [t,w] at E;generalize m:e::b=d at*;have i:d≠[]:=by rw [<-m];simp
   cases E with
   | sn=>exact absurd rfl i
   | s0=>exact absurd rfl i
   | @sl _ _ c9 f1 c8 y e2 l R gl gs d7 gr=>
    obtain ⟨k1,k2⟩:=r.ow 2 0 0 d _ _ (by rw [t];rfl) (by rw [w];rfl);have ⟨q,C3,f3,e6,F,k5,k6⟩:=k2;rw [l] at F;cases F;have q:=q;subst q;have c3:c8=1:=by
     have b6:e∈d:=by rw [<-m];simp
     have:=(gs e b6).1;rw [<-m] at f;unfold K9 at f;split at f;rename_i k;cases k;rename_i k;cases k;simpa using this.symm;cases f
    subst c3;have ⟨w1,w2⟩:=r.Bm t w l;refine ⟨.string ⟨bs.toArray⟩,_,D,d3,?_,w1.fin (.v rfl rfl) (.one (λ_ e=>by cases e) (λ_ e=>by cases e) (λ_ e=>by cases e)),q3.trans w2⟩;have C:y.length=d.length:=by rw [k5,Nat.mul_one]
    have c5:c9≠x:=by rintro rfl;exact R (Mu.of (zF b2) rfl n)
    have c4:=K8 d y bs f C (λc6 c7 e d1 c L M N=>gr c6 c7 e d1 c L M (by rw [yZ,Nat.mul_one];exact N));have c2:=λe=>i (zK e);unfold DI;simp only [h2,hm,if_true,q1,l];rw [zP ⟨C,c2,c5,b1⟩,c4];rfl
   | _=>exact absurd rfl i
 cases a;cases a;cases a;cases a
end
end T
namespace V
open Go
variable {a b c d e f g:Nat} {u v w:Value} {i j k:Int} {t:TypeId} {p:List Value} {q:Bool} {n:IntKind}
def gu (P:aB) (t:aP) (a:aQ) (H:AH):Option (aq×AH):=match a with
 | [.slice none 0 0]=>some (.slice none 0 0,H)
 | [.slice (some A) n c]=>(fN P t 0 [] H).bind λq=>cC P t t q.1 (.slice (some A) n c) q.2
 | _=>none
def yi (a:aQ) (H:AH):Option (aq×AH):=match a with
 | [.int .i64 n]=>if 0<=n/\n<1000000000 then some (.string ⟨(Lib.itoa n).toArray⟩,H) else none
 | _=>none
def rG (a:aQ) (H:AH):Option (aq×AH):=match a with
 | []=>some (.bool true,H)
 | _=>none
end V
namespace T
open Go V
variable {a b c d e f g:Nat} {u v w:Value} {i j k:Int} {t:TypeId} {p:List Value} {q:Bool} {n:IntKind}
def bI (e b a:Nat) (f:ao) (s:ae) (d:Nat):Option (TV×ae):=match f with
 | [x]=>if Fy x=true then none else match aO [] s x with
  | some []=>some (.sl (Nat.beq a 2) [],s)
  | some (c::g)=>(cq true e b a d (.sl true []) x [] s).map λp=>(bw p.1,p.2.2)
  | none=>none
 | _=>none
def nP (a:ao) (s:ae) (_:Nat):Option (TV×ae):=match a with
 | [.v (.int .i64 n)]=>if 0<=n/\n<1000000000 then some (.v (.string ⟨(Lib.itoa n).toArray⟩),s) else none
 | _=>none
def iX (a:ao) (s:ae) (_:Nat):Option (TV×ae):=match a with
 | []=>some (.v (.bool true),s)
 | _=>none
structure WN (P:aB) (t:aP) (e b:Nat):Prop where
 of:∃el ei zv,P.underlying t=some (.slice el)/\P.info? el=some ei/\ei.size=e/\ei.bytes=b/\ei.zero=some zv/\zv.cells.toList.all ak/\zv.cells.size=ei.size
section
variable {X:Nat->Prop} {D E:aH} {M J:Nat->Prop} {H h:AH} {ω ω':Nat->Option Loc} {P:aB} {fl:Nat} {τ τ':TF} {l s l' s':ae} {V:aQ}
theorem Kv:s5 nP yi:=by
 intro i s fl r s' b X D ω H g h d;unfold nP at b;split at b;rename_i n;split at b;rename_i f;cases b;match g,d with
 | [a],_=>
  have c:=h.tm 0;cases c with
  | v _ _=>refine ⟨.string ⟨(Lib.itoa n).toArray⟩,H,D,ω,?_,h.fin (.v rfl rfl) (.one (λ_ e=>by cases e) (λ_ e=>by cases e) (λ_ e=>by cases e)),Xt.refl⟩;show (if _ then _ else _)=_;rw [zP f]
 cases b;cases b
theorem GU:s5 iX rG:=by
 intro d s fl r s' a X D ω H c h b;unfold iX at a;split at a;cases a;match c,b with
 | [],_=>exact ⟨.bool true,H,D,ω,rfl,h.fin (.v rfl rfl) (.one (λ_ e=>by cases e) (λ_ e=>by cases e) (λ_ e=>by cases e)),Xt.refl⟩
 cases a
theorem AZ {b:aP} {a:TypeInfo} (g:P.underlying t=some (.slice b)) (c:P.info? b=some a) (h:a.zero=some u) (d:u.cells.toList.all ak) (f:u.cells.size=a.size) (e:a.size<1000000) (H:AH):
  fN P t 0 [] H=some (.slice (some ⟨H.length,0,none⟩) 0 0,H++[.row [] a.size (some 0)]):=by
 unfold fN;simp only [g,c,h,Instr.fill];rw [zP ⟨d,O,f,e⟩];simp [eS]
theorem sN {fl:Nat} {x:TV}:cq true a b c fl (.sl true []) x l s=cq q a b c d (.sl true []) x l s:=by unfold cq;cases aO l s x <;> simp
theorem nA (hC:WN P t a b) (c9:0<a) (c3:a<1000000) (c7:c=0\/c=2):s5 (bI a b c) (gu P t):=by
 intro d5 s fl d7 s' n X D ω H vs h hl;obtain ⟨el,z,zv,L,he,rfl,rfl,hz,hs,c4⟩:=hC.of;have c8:=AZ L he hz hs c4 c3;have b6:∀{c2:Bool} {v:aq},(v= .slice none 0 0\/∃A,v= .slice (some A) 0 0)->NO (.sl c2 []) v:=by intro c2 v hv i j es r d3 _ e2;rcases hv with rfl|⟨A,rfl⟩ <;> cases i <;> cases j <;> simp [mi,jt] at e2
 unfold bI at n;split at n;rename_i x;split at n;cases n;rename_i hV;match vs,hl with
 | [r],_=>
  have ha:=h.tm 0;have c6:∀A m g q,r= .slice (some A) m g->cq (qo t) z.size z.bytes c fl (.sl true []) x [] s=some q->∃e f l p,gu P t [r] H=some (e,f)/\St X l p fl f (aI [bw q.1]) q.2.1 q.2.2 [e]/\Xt X fl D ω H [] s l p f q.2.1 q.2.2/\TR l (Mu X l q.2.1 q.2.2) f q.1 e/\St X l p fl f (aI []) q.2.1 q.2.2 [e]:=by rintro A m g q rfl K;have h:=h.congr (V':=[.slice (some A) m g]++List.replicate 3 undef) (dx _ _);have ⟨j1,j2⟩:=h.mI [.row [] z.size (some 0)];have j3:=j1.put (d:=some 2) (x:=.sl true []) (v:=.slice (some ⟨H.length,0,none⟩) 0 0) (λ_ a=>by cases a;simp) .s0 (b6 (.inr ⟨_,rfl⟩));have ⟨e,f,l,p,r1,o,r3,_⟩:=bV.app (ty:=0) j3 (d:=some 3) (λ_ a=>by cases a;simp [bZ]) L L rfl he hz c4 c3 (x:=.tmp 2) (y:=.tmp 0) rfl rfl K;refine ⟨e,f,l,p,?_,?_,j2.trans r3,o.tm 3,?_⟩;show (fN P t 0 [] H).bind _=_;rw [c8];exact r1;exact o.fin (o.tm 3).bw (NO.bw _ _);exact ⟨λt=>.u,λt i j es r d3 E _=>by cases i <;> cases j <;> simp [aI,eG,iG] at E,o.ob,o.lt,o.fA,o.mJ,o.xl,o.xo⟩
  split at n;rename_i w;cases n;by_cases h0:r= .slice none 0 0;subst h0;exact ⟨.slice none 0 0,H,D,ω,rfl,h.fin .sn (b6 (.inl rfl)),Xt.refl⟩;have J:∃A m g,r= .slice (some A) m g:=by
   cases ha with
   | sn=>exact absurd rfl h0
   | s0=>exact ⟨_,_,_,rfl⟩
   | se=>exact ⟨_,_,_,rfl⟩
   | sl _ _ _ _ _ _=>exact ⟨_,_,_,rfl⟩
   | m _=>exact ⟨_,_,_,rfl⟩
   | v _ _=>exact absurd rfl hV
   | _=>cases w
  have ⟨A,m,g,F⟩:=J;have K:cq (qo t) z.size z.bytes c fl (.sl true []) x [] s=some (.sl true [],[],s):=by unfold cq;rw [w];simp only [true_or,true_and,List.append_nil,if_true];rw [zP ⟨rfl,rfl,by simp [fits],c9⟩]
  have ⟨e,f,l,p,N,_,C,R,k5⟩:=c6 A m g _ F K;have c5:e= .slice none 0 0\/∃A,e= .slice (some A) 0 0:=by
   generalize M:TV.sl true []=d8 at R;cases R with
   | sn=>exact .inl rfl
   | s0=>exact .inr ⟨_,rfl⟩
   | se=>cases M
   | @sl c2 es _ _ _ _ _ _ _ _ _ d2 _=>cases M;exact absurd rfl (d2 rfl)
   | _=>cases M
  exact ⟨e,f,l,p,N,k5.fin (by rcases c5 with rfl|⟨A,rfl⟩;exact .sn;have ⟨b1,b2,b3⟩:=A;have:=R;cases this with|s0=>exact .s0) (b6 c5),C⟩;rename_i c0 d6 w;have ⟨d4,k,E⟩:=map_some n;cases E;have J:∃A m g,r= .slice (some A) m g:=by
   cases ha with
   | sn=>cases w
   | s0=>exact ⟨_,_,_,rfl⟩
   | se=>exact ⟨_,_,_,rfl⟩
   | sl _ _ _ _ _ _=>exact ⟨_,_,_,rfl⟩
   | m _=>exact ⟨_,_,_,rfl⟩
   | v _ _=>exact absurd rfl hV
   | _=>cases w
  have ⟨A,m,g,F⟩:=J;rw [sN] at k;have ⟨e,f,l,p,N,k2,C,_⟩:=c6 A m g _ F k;have d1:d4.2.1=[]:=by unfold cq at k;rw [w] at k;simp only at k;split at k;split at k;cases k;rfl;rcases c7 with rfl|rfl;cases k;rfl;cases k;rfl;cases k
  rw [d1] at k2 C;exact ⟨e,f,l,p,N,k2,C⟩;cases n
 cases n
end
end T
namespace V
variable {a b c d e f g:Nat} {u v w:Value} {i j k:Int} {t:TypeId} {p:List Value} {q:Bool} {n:IntKind}
def P0:List (Nat×List (Nat×Nat×List (Nat×Nat×aA))):=[(4,[(4,6,[(4,3,[2])])]),(7,[(3,8,[(2,3,[0,3])])]),(12,[(1,6,[(1,2,[2])]),(6,29,[])]),(13,[(9,22,[(16,15,[1,3,7,9,11])])]),(14,[(3,4,[(2,1,[1])])]),(18,[(1,19,[(7,15,[0,1,2,9,10,13,14])]),(6,14,[(8,7,[4])])]),(19,[(9,13,[(5,11,[3,7,9]),(10,5,[])]),(12,13,[])]),(21,[(1,22,[(8,20,[3,12,17,18]),(13,8,[3,17,18]),(19,13,[])]),(7,20,[(14,13,[1,5,9])])]),(22,[(6,44,[])]),(23,[(5,25,[])]),(24,[(6,9,[])]),(26,[(3,4,[])]),(27,[(3,4,[(2,1,[1])]),(10,14,[(11,6,[])]),(13,9,[]),(16,5,[(3,2,[2])])]),(29,[(8,14,[(11,6,[])])]),(35,[(6,21,[])]),(38,[(1,24,[]),(2,13,[])]),(39,[(1,12,[])]),(40,[(2,18,[])]),(43,[(3,10,[])]),(44,[(6,51,[])]),(46,[(10,6,[(2,3,[3])])]),(47,[(4,5,[])]),(48,[(12,10,[]),(20,5,[(3,2,[2])])]),(50,[(6,11,[]),(8,4,[])]),(51,[(2,16,[])]),(53,[(6,12,[(9,4,[])]),(10,4,[])]),(57,[(11,21,[])]),(58,[(34,12,[])]),(59,[(1,13,[])]),(60,[(2,11,[])]),(61,[(12,20,[(17,12,[])]),(15,10,[]),(17,10,[(7,6,[3,5])])]),(64,[(22,17,[]),(29,7,[])]),(68,[(11,9,[(4,5,[5])])]),(69,[(19,13,[(10,7,[]),(6,10,[0,2,10]),(8,6,[0,2,10]),(9,8,[10])])]),(70,[(2,10,[(4,1,[]),(2,4,[4])])]),(73,[(7,7,[]),(8,13,[]),(9,7,[]),(10,9,[]),(11,14,[]),(23,7,[]),(24,13,[]),(25,7,[]),(28,13,[(10,5,[])]),(29,9,[]),(30,18,[]),(32,20,[])]),(75,[(9,19,[]),(17,7,[]),(18,13,[]),(19,7,[]),(22,13,[(10,5,[])]),(23,9,[]),(26,12,[(9,4,[])]),(28,17,[])]),(77,[(2,18,[])]),(78,[(6,10,[]),(12,38,[]),(13,10,[]),(16,15,[])]),(79,[(2,3,[]),(6,11,[(8,3,[])]),(7,16,[(9,12,[0,12])]),(9,11,[(8,3,[])]),(10,10,[]),(11,27,[]),(12,6,[]),(13,11,[(4,7,[0,7])]),(16,11,[(8,3,[])]),(17,8,[]),(22,12,[(9,4,[])]),(25,4,[]),(29,11,[(8,3,[])]),(30,17,[(9,13,[0,13]),(10,9,[])]),(32,11,[(8,3,[])]),(33,9,[]),(34,9,[]),(35,3,[])]),(80,[(2,11,[]),(6,11,[(8,3,[])]),(7,11,[(8,5,[]),(2,8,[3,8]),(6,2,[8]),(7,6,[8])]),(11,11,[(8,3,[])]),(12,10,[]),(14,11,[(2,7,[3,5])]),(15,6,[(2,3,[3])]),(16,10,[]),(17,11,[(2,7,[3,5])]),(20,6,[(2,3,[3])]),(22,11,[(8,3,[])]),(23,10,[]),(24,11,[(2,7,[3,5])]),(26,11,[(8,5,[]),(6,8,[8]),(7,6,[8])]),(29,8,[(5,2,[]),(3,5,[5]),(4,3,[5])]),(30,11,[(8,3,[])]),(31,10,[(7,4,[]),(2,7,[3,7]),(5,2,[7]),(6,5,[7])]),(33,11,[(8,3,[])]),(34,10,[(7,4,[]),(2,7,[3,7]),(5,2,[7]),(6,5,[7])]),(35,10,[]),(37,10,[]),(39,4,[])]),(83,[(6,9,[])]),(87,[(7,12,[]),(8,11,[])]),(88,[(0,16,[(12,11,[4,8])])]),(89,[(2,9,[(5,4,[2])])]),(90,[(1,11,[])]),(94,[(8,17,[(13,7,[])])]),(95,[(8,19,[])]),(96,[(3,13,[]),(4,11,[]),(14,22,[(18,11,[]),(12,18,[3,7,9])])]),(97,[(4,14,[(11,6,[])]),(7,15,[(12,7,[]),(5,12,[3,7])]),(11,10,[]),(16,10,[]),(20,13,[(10,3,[]),(4,10,[2])])]),(102,[(32,17,[(5,10,[]),(6,5,[])])]),(104,[(3,5,[(2,1,[0])]),(5,4,[(2,1,[1])])]),(106,[(4,9,[(5,6,[6])])]),(108,[(6,6,[]),(7,14,[(5,10,[6,10])]),(11,7,[(2,3,[3])]),(13,8,[(4,5,[5])])]),(109,[(8,7,[(2,3,[3])])]),(118,[(3,3,[]),(7,3,[]),(11,16,[])]),(120,[(11,4,[])]),(121,[(7,14,[]),(15,13,[])]),(122,[(2,3,[]),(11,11,[(8,3,[])]),(12,10,[]),(19,14,[(6,11,[11])]),(21,11,[]),(23,10,[]),(24,26,[]),(26,11,[(8,3,[])]),(27,10,[]),(32,11,[(8,3,[])]),(33,8,[])]),(125,[(4,11,[(8,3,[])]),(5,10,[]),(7,14,[(9,6,[]),(11,9,[]),(7,11,[11]),(8,7,[11]),(10,8,[11])]),(23,8,[]),(52,14,[]),(56,6,[(2,3,[3])])]),(126,[(1,8,[]),(3,10,[]),(5,10,[]),(6,9,[]),(8,9,[(6,3,[]),(4,6,[6]),(5,4,[6])]),(10,10,[(7,4,[]),(5,7,[7]),(6,5,[7])]),(11,11,[(8,5,[]),(6,8,[8]),(7,6,[8])])]),(127,[(4,6,[])]),(128,[(3,4,[]),(5,4,[]),(9,4,[]),(11,4,[]),(14,5,[]),(15,4,[]),(19,4,[]),(21,4,[]),(23,4,[]),(25,11,[]),(27,4,[]),(28,4,[])]),(129,[(2,11,[]),(5,13,[]),(6,10,[])]),(133,[(13,12,[(9,3,[]),(2,9,[3])])]),(137,[(20,13,[])]),(138,[(0,15,[])]),(139,[(4,18,[])]),(141,[(9,15,[]),(10,10,[]),(11,9,[])]),(142,[(3,21,[(18,13,[])])]),(143,[(3,15,[]),(6,12,[])]),(144,[(1,15,[])]),(147,[(6,11,[(7,4,[]),(5,7,[0,2,7]),(6,5,[7])]),(14,6,[(2,3,[3])]),(18,8,[(5,2,[]),(3,5,[0,5]),(4,3,[5])]),(24,7,[(2,3,[3])]),(27,7,[(2,3,[3])]),(32,9,[(5,2,[]),(3,5,[0,5]),(4,3,[5])]),(35,7,[(2,3,[3])])]),(155,[(11,4,[]),(12,11,[]),(13,9,[]),(14,9,[]),(16,4,[]),(17,10,[]),(19,8,[]),(23,17,[]),(29,4,[]),(30,14,[])]),(156,[(6,12,[(9,4,[])]),(11,3,[]),(20,16,[(9,13,[0,13])]),(22,4,[]),(29,22,[(15,19,[0,19])]),(31,5,[])]),(158,[(4,13,[]),(9,9,[]),(14,5,[])]),(162,[(5,12,[(9,4,[])]),(9,4,[])]),(181,[(3,15,[]),(5,13,[])]),(182,[(1,14,[]),(4,13,[])]),(183,[(2,8,[]),(3,9,[])]),(185,[(1,35,[]),(3,10,[])]),(186,[(1,23,[])]),(192,[(11,10,[]),(13,15,[(12,7,[]),(5,12,[])]),(14,10,[(7,6,[0,4])]),(19,4,[]),(20,4,[])]),(195,[(6,7,[])]),(196,[(13,8,[]),(18,20,[])]),(197,[(1,10,[])]),(200,[(1,10,[(2,5,[5]),(3,2,[]),(6,3,[3])])]),(207,[(1,7,[(1,2,[2])])]),(208,[(1,7,[(1,2,[2])])]),(209,[(1,7,[(1,2,[2])])]),(213,[(5,11,[(2,6,[6]),(4,2,[])])]),(215,[(9,10,[])]),(217,[(6,10,[])]),(218,[(7,6,[(2,3,[3])]),(8,6,[(2,3,[3])])]),(224,[(12,11,[])]),(225,[(1,12,[])]),(226,[(7,6,[(3,2,[0])]),(11,4,[])]),(233,[(1,11,[]),(6,7,[]),(10,14,[]),(11,12,[]),(14,13,[]),(16,17,[(11,10,[5])]),(25,13,[(10,5,[])])]),(234,[(4,5,[]),(8,8,[(4,5,[5])]),(10,8,[(4,5,[5])]),(12,8,[(4,5,[5])]),(14,6,[(2,3,[3])]),(16,6,[(2,3,[3])]),(18,6,[(2,3,[3])]),(20,8,[(4,5,[5])]),(23,8,[(4,5,[5])]),(30,9,[(5,2,[]),(3,5,[0,5]),(4,3,[5])]),(33,12,[(7,4,[]),(5,7,[0,7]),(6,5,[7])])]),(237,[(8,15,[])]),(248,[(7,15,[]),(8,15,[]),(9,15,[]),(10,15,[]),(17,15,[]),(18,15,[]),(23,15,[])])]
def assoc {a:Type} (d:a) (k:Nat):List (Nat×a)->a
 | []=>d
 | p::ps=>if Nat.beq p.1 k=true then p.2 else assoc d k ps
def pl0:Nat->List (Nat×aA)->List (Nat×aA)
 | 0,l=>l
 | n+1,l=>pl0 n ((n,[])::l)
def YF (i:Nat):List (Nat×aA)->List (Nat×aA)
 | []=>[]
 | x::l=>bif Nat.beq x.1 i then l else x::YF i l
def plI (i j:Nat) (r:aA):List (Nat×aA)->List (Nat×aA)
 | []=>[]
 | x::l=>bif Nat.beq x.1 j then x::(i,r)::l else x::plI i j r l
def plM (l:List (Nat×aA)):List (Nat×Nat×aA)->List (Nat×aA)
 | []=>l
 | m::ms=>plM (bif Nat.beq m.2.1 99 then (m.1,m.2.2)::YF m.1 l else plI m.1 m.2.1 m.2.2 (YF m.1 l)) ms
def Pl:cQ:=λK a=>match assoc (0,[]) a (assoc [] K P0) with
 | (n,ms)=>plM (pl0 n []) ms
end V
namespace T
open Go V
def UT:List (Nat×aA):=[(3,[5,20817,17,4,16,4112,16400,21824,21824,1052688,1,20480,64,17448321024,68157504]),(4,[4,0,20,82257,1280]),(5,[5,281543712981008]),(6,[1,4]),(7,[85,0,5,24576,0,21]),(8,[0,0,4,16,256,16385]),(9,[1,67109888]),(10,[0,0,4,1025]),(11,[1,0,1,16385]),(12,[21,0,1,64,0,4,67108864,1,4,1]),(13,[0,0,4,4096,268435456,64,0,1280,1064960,4398063288324,4,4]),(14,[0,20817,0,80,1361]),(15,[5,72128031568756800]),(16,[1,20564,21824,16,1,64,16,64,0,1,1,0,17,16384,1,65600]),(17,[5,72128031568756800]),(18,[85,105235087360,267520,64,0,4,69222656,4,64,0,64,5,4,5]),(19,[1,384,64,0,64,262144,256,16,0,16777216,0,4,16778240,4,257]),(20,[1024]),(21,[0,4398046511104,4477952,0,1025,0,16,274878955524,4,4]),(22,[21,1180663682709764178944,1,64,0,4,72057594105036800,1,4,1024]),(23,[1,268435456,64,0,4,281479271677956,4,4]),(24,[1,0,1,16,0,4,1024,1,4,1]),(26,[1,20817,0,80,83265,5441]),(27,[0,82256,0,80,65536,64,0,4,65536,16384,85262352,4,64,65600,4,0,320,64,80]),(28,[1,0,1,65537]),(29,[1,16,64,64,0,4,4112,1024,85262352,4,4097,4194304,0,4,4100,1044,4,64,4]),(30,[1,6446911744]),(31,[5,16,5,353]),(32,[0,16448,4,16389]),(33,[1,16,0,4,0,5,4,1]),(34,[5,64]),(35,[1,262144,24,17,0,17,1649267441665,388,1085696,262401,5]),(36,[1,1,1025,16,0,65552,257,5]),(37,[260,0,16,4,4]),(38,[1,70918567121920,16793600]),(39,[1,4198400]),(40,[1,16,17179869184,262144,0,65,1,16385,1,16384,69,1]),(41,[1,0,1,1,1025,0,16,1025,256,257,4,5]),(42,[1,0,1,257]),(43,[5,0,5,327936]),(44,[1,0,1,16,0,4,18889466212953561759744,1,4,1]),(45,[1,4,0,81,4,16,1,1,1,5587200,0,261,5,261,4,0,4117,81,1381700,0,5205,16,16,257,68]),(46,[5,4,64,4,0,5456,0,5456,16,69,1284]),(47,[5,0,16,0,320,81]),(48,[0,0,80,16388,17,0,17,0,16,0,16,65536,262401,256,1,0,17,0,65,0,320,320]),(49,[1,4,16,0,65600,257,5]),(50,[5,272,1,16,0,4,1396752,4,81]),(51,[1,0,1074003969,4]),(53,[5,4,1088,16,0,4,5328912,4,69,4,81]),(54,[1,4,97,4117,5]),(55,[5,4195333]),(57,[1,1,1024,17,16,262161,1,16,0,17,1024,16777280,1,1]),(58,[64,16777216,0,4,4,1048580,4,21,4,0,64,0,0,68,4,4,5,5,4,0,64,4,20,5,4,0,5,4,5,4,4,5,4,0,1024,5]),(59,[1,16777472]),(60,[1,1040,1048576,1,1,4352,1,16385,1]),(61,[1,0,5,4,1,4,1,4,1,4,1,4,349234528256,69,4,4,4,266240,4,4,69,4,4,4,4,69,4,4,4,4,5]),(62,[1,1,0,64,0,1,0,1,269488144,5,17,5]),(63,[5,1,1,1,0,17,17,0,17,1,85]),(64,[20,0,4,4,64,4096,5,4,0,4,340,4,87365,0,1398017,1,84,21585,4,16,0,4,1024,345093,4,1,1,0,17,0,1380369,84]),(65,[5,256]),(66,[1,4096]),(67,[5,64,274945015872]),(68,[5,64,16,20816,16,4,64,4,5456,16,69,81984]),(69,[5,64,16,20816,16,4,1,64,0,16,4,5456,69,17,16,16,0,21824,5456,20989248]),(70,[1,0,262145,4]),(71,[5,4276225,69,5]),(72,[1,64,1,16,0,4,4096,1,4,1]),(73,[1,64,16,16,0,4,0,4097,0,4097,65537,67109124,4,1024,16,0,4,4096,256,16,0,4,0,4097,0,4097,0,5,21315585,65537,17184064528,4,274898879504,4,5]),(74,[5,256]),(75,[1,64,16,16,0,4,256,0,65,1048576,65,64,64,1,0,17,0,4097,0,4097,0,5,21315585,66561,0,5,5328901,4161,4296343568,4,5]),(76,[5,256,0,4,0,5,4,1]),(77,[1,0,17184063489,5]),(78,[1,4,1281,65536,65536,66,262208,64,4,1,0,17,25161358916539828404241,262481,4,1281,268451840,66,5]),(79,[5,0,20,256,0,4,1332224,1343226896,4,1332224,349184,1073742080,1024,1311824,4,4,1332224,16388,64,1,0,17,5328896,261,4,81,4,0,20736,1332224,5372903680,4,1332224,81988,87044,20]),(80,[5,1024,1048576,16384,0,4,1332228,1312005,4,87124,4,1332224,349184,0,1064965,1285,349188,1048581,69,66561,1285,4,1332224,349188,1048581,69,1311760,4,0,20497,1332228,327941,4,1332228,327941,349184,69,64,1041,81]),(81,[1,4,16,0,4,1028,64,1024,385,4,5]),(82,[1,1,1,0,4,4101,4,65,0,4,1029,4,5]),(83,[1,0,1,16,0,4,1024,1,4,1]),(84,[1,16842768]),(85,[5,257]),(86,[262144,262144,64,64,17,67108928,0,1,0,1,276,4,5,17,0,16,4,4,87296,85]),(87,[1024,17,0,16,4,4,0,4194304,0,4,21,4,5,4,21]),(88,[1078198272]),(89,[1,0,66564]),(90,[1,1081604]),(91,[4,16,20,16,20,21765]),(92,[1,1,5,1]),(93,[0,4096,65536,263172,4]),(94,[1,0,64,5,333056,1,20480,4,5659426816,69]),(95,[1,1,0,4,256,5,4,4,68719476736,5,0,0,1,1025]),(96,[1,0,4,16777217,0,1,65,4,1,0,4,1,4,1,5795257253888,69,4,65,0,0,1,4,1]),(97,[1,0,4,20480,85262336,69,4,341049344,69,4,5505280,262144,0,5,4,20496,262144,0,5,4,21315584,69,4,333056,69,4,4,1,4,1]),(98,[1,1052688,1,4112,1,4112,1,1]),(99,[1,256,17,5]),(100,[1,4,16,0,4,4,1,4,1]),(101,[20,4,256,17,64,16,1,256,4,1,0,84,256,17,349205,17,84,17,340]),(102,[21,64,21,4,1,0,17,64,16,85,0,5393,0,261,17,0,85,0,85,4,4,4097,4,65,4,65,4,1,0,17,4096,1349,4294967297,17,337]),(103,[1,4,16,256,4]),(104,[1,64,16,320,256,80]),(105,[1,64,16,68,256,4]),(106,[5,20816,16,5456,82177]),(107,[1,68,256,4]),(108,[5,64,4,16,0,4,0,83968000,4,0,83264,5124,5456,20480]),(109,[5,64,16,4,64,4,5456,69,5124]),(110,[1,4,69,69,5]),(111,[1,1048640]),(112,[5,0,4,4,65600,4,4,4,4,4,4,65600,4,64,4,64,0,1,0,4,64,4,65600,4,65600,4,65600,4,68786651200,64]),(113,[1,64,4,16,0,4,4194369,4,17,16,0,4100,0,4,4113,4,17,4,4,4,17,4,16,1208999606591198907596816,4,17,4,17,4,17179869201,4,4112,4,17,4,4112,4,4,4,17,4,16401,4,17,4,4,17,4,4294983696,68720525329]),(114,[1,4,16,16,0,4,0,16401,4,5]),(115,[1,16,0,4,16,1,4,1]),(116,[5,4,1281,260,66,5]),(117,[1,16384,1,64,17,1025,5]),(118,[5,64,0,21,0,333057,0,21,349248,65,20564,1430258688,0,325,20564]),(119,[1,4,16,0,4,0,5,4,1]),(120,[5,16384,4,69,16777473,67125520,65616,4,1281,16388,66,85]),(121,[1,1024,16,0,4,0,5,89392145,4,4,1281,16,0,4,0,16777232,4,66,5]),(122,[5,0,20,4096,256,4096,65600,4096,64,21824,64,1332224,349184,4,1,0,4096,1,1,67387392,64,1396752,64,349184,1130297953419520,64,1332224,349188,4,4416,1024,65600,1332224,16452,5200]),(123,[1,1,4,68]),(124,[5,1104]),(125,[5,16384,1024,64,1332224,349188,256,84152337,0,17,21828,16384,4,0,4,1088,4,1088,4,1,64,0,4,0,5,4,0,64,4,257,1025,17,276,4,1088,4,68,4,276,4,256,0,1092,4,68,4,276,4,1088,4,1088,4,67108864,1024,0,1088,1285]),(126,[5,16384,21828,349184,1093,262144,0,4,82001,4,327697,1310801]),(127,[5,16,0,4,0,5,4,1]),(128,[85,0,4,80,4,80,4,1281,4,80,4,80,4,0,320,80,4,5,4,80,4,80,4,80,4,1048577,0,80,80,5]),(129,[17,16,0,20,65792,17400064,327696]),(130,[21]),(131,[4353,262400,0,262401]),(132,[17,16400,1280,16400,1280,16401,1280,20]),(133,[325,16,357616156938241,340,0,84,0,4,5591041,4,341049345,340,4,5328897,340,4,21824,21824,260,1397781,5,1332245,340,84]),(134,[1,0,21,1]),(135,[4353,1,262148,262148]),(136,[1,17408,65536,263428,5]),(137,[20,5456,17,84,17,0,320,16,84,4,1,4,1397765,4,1397765,4,86017,4,86017,4,22020352,4,357826565,4,1396741,0,340,337,5457,1,84,337]),(138,[268435456,0,1]),(139,[1,17,0,1,65536]),(140,[17,21824,16,84,16400,20,64,20987905,5259265]),(141,[21,64,16400,1,16777232,1,0,24576,0,403702784,262145,66561,1]),(142,[4,0,20,1396942324736,1,20,20]),(143,[4,1,262144,268435456,0,64,6291457,4,1393921]),(144,[5,357564416,17,1,4195588,1]),(145,[5,4,64,16,64,5,1,0,17,256,5,1,0,1,1024,5,1,1,0,17,65537,17,5121,81]),(146,[1,4112,65,4112,65,4112,65,1]),(147,[5,64,16,329024,21824,21824,1311040,16,83264,5456,69,0,21824,69,1284,16,83264,5456,20500,16,64,4,0,5456,5124,16,83264,5124,5456,256,16,83264,81940,16,16,5124]),(148,[1,16777472,1,65536,17,16,68,1,1,5]),(149,[1,17]),(150,[1,17]),(151,[5,64,1,65600,1,65600,1,65600,1,64,1,64,1,64,1,65600,1,1]),(152,[1,1,0,17,0,1,1]),(153,[5,4,65,65552,21,16,0,4,4096,85,4,1029,325]),(154,[5,4,65,0,21,64,16405,0,21,1,0,17,21829,85]),(155,[5,16384,256,268435472,1025,1024,0,16,0,4,0,85,0,65793,65793,4,85,349185,0,16449,16,0,4,65536,65,4,0,65,0,85,68157445,1426068501]),(156,[5,256,4,16,0,4,5328912,4,261,4,0,20,4096,0,21825,0,324,16,0,4,1077936128,4,81,16448,0,324,16,0,4,4415226380288,4,320]),(157,[5,4112]),(158,[5,21824,256,324,16778240,1,0,17,1048576,0,4,321,1044,18,320,324]),(159,[5,64,64,4112,16,4113,1,1,68,1,68,1,4112,1,1,16,1,1,16,1,4112,1,4113,1,1]),(160,[1,4,321,1044,18,4]),(161,[1,16781328,1,16,1,69]),(162,[5,4,16,0,4,5328912,4,69,4,81]),(163,[1,1396736,1,4096,0,16782340,5]),(164,[5,0,4096,256]),(165,[0,17]),(166,[1,17]),(167,[1,1024]),(168,[1,256]),(169,[1,1024]),(170,[0,1,4,4]),(171,[5,67174464]),(172,[4,1,4,81,4,321,20]),(173,[20,64,1,1,1,84,4,69,4,69,4,69,4,21829,4,21829,4,1345,4,1345,4,1345,4,1345,4,1345,4,1345,1,84,337]),(174,[69,0,4,1280,4,1280,4,1280,87041]),(175,[21,64,4113,5,16400,5,5121]),(176,[20,83269,1,84,84]),(177,[5,1,4,4,20,4,4,20,4,20,4,4,20,4,5,5]),(178,[81,0,4,84,4,4,21825,0,340,337,84]),(179,[81,0,4,1397761,4,5591041,4,1397761,84]),(180,[0,1041]),(181,[5,16,5,268435472,5,16777216,16385,0,69,21]),(182,[5,16,5,16384,20971776]),(183,[1,0,16641,65793]),(184,[21,64,4113,5,16,5,64,20481,20481]),(185,[5,17179885584,1,262145]),(186,[17,1052688,20,5570821]),(187,[4,16,20,348309]),(188,[85,21824,17,21764,64,5,21]),(189,[1,16,1,0,17,4096,64]),(190,[0,16,17,1,0,17,1024,17,4]),(191,[5,1,1,0,17,16385,17]),(192,[5,0,1360,87296,5456,1,1,1,16,0,4,16,64,341049344,267280,4,1,4,16,81,81]),(193,[1,64,1,345424,268501009]),(194,[1,0,1,16,266240,69,17]),(195,[5,0,256,16,0,4,0,1024,17,1,4,1]),(196,[1,4,0,17,0,5,16384,0,4,1,16,0,4,0,1028,4,0,69,279172874241,4,256,0,256,0,69,1041,4,333057,1041,5]),(197,[5,328704]),(198,[5,1,4,17,4,17,4,65552,1052688]),(199,[0,16448]),(200,[5,262144]),(201,[1,69]),(202,[1,69]),(203,[1,69]),(204,[1,69]),(205,[5,0,4,5,4,81,325]),(206,[5,0,4,5,4,5,325]),(207,[5,4096]),(208,[5,4096]),(209,[5,4096]),(210,[5,65600]),(211,[1,0,1,4,0,17,17,4096,17,0,1,17,16,65]),(212,[1,17]),(213,[5,4096,1,0,1,1048640]),(214,[1,5457,5]),(215,[1,0,0,1396800,17,0,97,68,0,263168,5]),(216,[85,1540,0,0,5,1281]),(217,[5,16,1,1,0,17,278528,256,17,4]),(218,[5,64,64,1360,1332224,256,0,1284,1284]),(219,[5,1,4,80,4,80,4,80,4,80,4,80,80]),(220,[1,16,16,1,1,1,1,1,1,0,1,5,1,1]),(221,[1,1,1,1]),(222,[5,16,5,65,5185]),(223,[5,349201,1297,21829,85]),(224,[1,0,1,4,1,4,1,4,1,4,1,4,1396736,5,17,1,64,65,4,4,1]),(226,[5,5456,16,64,0,83264,16,1044,329024,4,1088,81]),(227,[1,68]),(228,[5,1041,5184]),(229,[5,16,16,16,16,64,4164,16,17,1029,66629,69]),(230,[256,65,65]),(231,[1,1,16,0,4,16401,4,5]),(232,[1,2,0,16,0,4,4,4,0,4]),(233,[1,1396736,17,1,1,0,4096,16777232,1,263168,67108864,5586944,1,5,0,0,0,0,5,0,4,0,0,0,0,21316608,0,0,4,0,1,1]),(234,[5,64,4,0,320,16,262144,64,20544,64,20544,64,20544,16,1284,16,1284,16,1284,65600,20544,64,20816,20544,16,83264,321,4112,20816,21824,81940,16,82256,5243136,1280]),(235,[1,1025]),(237,[1,4112,65,16,1,16,1,4112,268697600,65]),(239,[5,65,0,1,1025]),(241,[5,16,4,1,64,0,16,20816,4,69,17,321])]
def Q0:List (Nat×List (Nat×aA)):=[(12,[(58,[2,3,14,15])]),(13,[(250,[0,2,4,30,31,32])]),(16,[(4090,[3,5,6,7,8])]),(18,[(122,[3,7,39,40])]),(19,[(58,[2,3,13,14,15])]),(20,[(2,[0,1])]),(21,[(490,[2,3,44,45,46])]),(22,[(58,[2,3,50,51])]),(23,[(58,[1,2,3,20,21])]),(24,[(58,[0,1,12,13])]),(27,[(250,[0,2,3,4,6,30,31])]),(29,[(122,[1,2,3,4,16,17])]),(33,[(26,[0,1,7,8])]),(35,[(122,[0,1,7,8,9])]),(36,[(122,[1,5,6,7])]),(37,[(6,[0,8,9,10])]),(41,[(122,[3,12,13,14])]),(44,[(58,[0,1,12,13])]),(45,[(1022,[0,3,4,5,6,7,8,9])]),(46,[(28,[1,3,4])]),(48,[(2042,[2,3,4,6,7])]),(49,[(58,[0,1,5,6])]),(50,[(122,[2,5,6,7,14,15])]),(53,[(122,[2,5,6,7,18,19])]),(57,[(506,[0,4,5]),(28,[0,3])]),(62,[(28,[0,1,5])]),(63,[(122,[0,1,6,7,8])]),(64,[(1018,[0,1,4,14,15]),(250,[0,1,4,12,73,74])]),(68,[(508,[1,3,4,5,6])]),(69,[(1020,[1,3,4,5,6,7])]),(72,[(58,[0,15,16])]),(73,[(506,[1,2,3,4,77,78]),(1037114,[1,2,3,4,6,7,8,77,78,92,93]),(122,[1,2,3,4,18,19])]),(75,[(122,[1,2,3,4,20,21]),(2005498,[1,2,3,4,5,6,7,8,9,20,21])]),(76,[(26,[1,2,9,10])]),(78,[(8186,[1,2,4,6,7,8,9])]),(79,[(503738,[2,5,6,14,15])]),(81,[(58,[0,1,5,10,11])]),(82,[(122,[3,18,19]),(58,[0,3,6])]),(83,[(58,[0,1,12,13])]),(86,[(250,[0,1,4,5,72,73,74])]),(87,[(26,[0,1,2,15,16,17])]),(99,[(12,[0,1])]),(100,[(58,[0,3,7,8])]),(101,[(1020,[0,1,4,7,8,9,10]),(28,[0,1,4,7])]),(102,[(122,[0,5,6]),(1026029554,[0,5,6,8])]),(108,[(122,[1,3,4,5,13,14])]),(109,[(124,[1,3,4,5])]),(113,[(122,[0,1,5,6,16,17])]),(114,[(122,[0,1,5,6,12,13])]),(115,[(26,[0,1,2,9,10])]),(117,[(58,[0,3,4])]),(119,[(58,[0,3,7,8])]),(121,[(506,[2,3,4,8,11,46,47]),(58,[1,2,3,4,8,9,19,20])]),(125,[(4189162,[1,2,5,6,12,15,109,110])]),(127,[(26,[0,3,7,8])]),(137,[(122,[0,1,2,3,8,34,35,36])]),(143,[(122,[0,1,4,6,30,31,32])]),(145,[(8186,[0,4,7,8]),(250,[0,4,5])]),(148,[(124,[0,5,6])]),(152,[(26,[0,1,5])]),(153,[(250,[0,1,6,26,27])]),(154,[(2042,[8,9,10,11])]),(155,[(8146,[1,2,5,11,14,56,57]),(8186,[1,2,3,4,5,11,12,13,16,113,114])]),(156,[(32602,[2,5,6,7,12,13,70,71]),(8186,[2,5,6,7,15,107,108]),(122,[1,2,5,6,7,23,24])]),(158,[(250,[1,3,7,9,10])]),(162,[(58,[1,2,5,6,12,13])]),(189,[(58,[1,2,3,4])]),(190,[(122,[2,3,4,5])]),(191,[(58,[1,3,4])]),(192,[(252,[1,2,5,6,7,8,9]),(32298,[1,2,5,6,7,8,9,34,35])]),(195,[(58,[0,1,5,16,17])]),(196,[(26,[1,2,3,4,8,9]),(431018,[1,2,3,4,8,9,10,11,44,45])]),(211,[(252,[0,3,4,5])]),(215,[(508,[7,8])]),(217,[(122,[2,3,4,5,6,7])]),(226,[(28,[1,3,4])]),(231,[(58,[0,3,6,7])]),(232,[(122,[0,3,7,8])]),(233,[(4090,[0,3,6,140,141])]),(241,[(124,[1,3,4,5])])]
def Ef (k:Nat):aA->Bool
 | []=>false
 | x::l=>Nat.beq x k||Ef k l
def Cn (K:Nat):Option (ao->ae->Nat->Option (TV×ae)):=
 if K=25 then some (bI 4 32 0) else if K=2025 then some (bI 4 32 2) else if K=56 then some (bI 1 8 0) else if K=52 then some (bI 4 24 0) else if K=242 then some Co else if K=225 then some sy else if K=236 then some y0 else if K=238 then some xz else if K=240 then some nP else if K=6 then some iX else none
def Pg:aA->Nat->Nat
 | [],_=>0
 | x::_,0=>x
 | _::l,n+1=>Pg l n
def AA:An:={
 an:=λK id i=>Pg (assoc [] K UT) id/4^i%4
 rw:=λK=>Ef K [7,8,18,20,30,31,35,37,38,40,58,60,61,86,87,88,89,90,91,92,93,94,95,96,97,128,129,130,131,133,134,135,136,137,138,139,141,142,143,144,163,176,179,181,182,183,186,187,215,224,225,230,233,236,238,242,2025]
 aM:=λK=>Ef K [73,75,77,78,116,118,120,121,155,196]
 lv:=λK p=>assoc [] p (assoc [] K Q0)
 tp:=Cn}
namespace Q
abbrev I (n:Int):TV:=.v (.int .i64 n)
abbrev U (n:Int):TV:=.v (.int .u8 n)
abbrev B (b:Bool):TV:=.v (.bool b)
abbrev S (l:List UInt8):TV:=.v (.string {data:=l.toArray})
abbrev N0:TV:=.sl true []
@[simp] def I0:TV:=I 0
@[simp] def I1:TV:=I 1
@[simp] def Bt:TV:=B true
@[simp] def Bf:TV:=B false
@[simp] def Vn:TV:=.v (.pointer none)
@[simp] def z2:ao:=[I 0]
@[simp] def z3:ao:=[I 0]
@[simp] def z5:ao:=[U 0]
@[simp] def z9:ao:=[S []]
@[simp] def z24:ao:=[N0,N0,I 0,I 0,I 0]
@[simp] def pT:ao:=[N0,N0,N0,N0,N0,N0,N0,N0,N0]
@[simp] def JL:ao:=[U 0,U 0,I 0]
@[simp] def z51:ao:=[I 0,N0,N0,I 0,S [],I 0,I 0]
@[simp] def gJ:ao:=[I 0,I 0,I 0]
@[simp] def z70:ao:=[N0,N0,N0]
@[simp] def z82:ao:=[N0,N0,N0,N0,N0,N0,N0,N0,N0,N0,N0,N0,N0,N0,I 0,I 0,I 0,.v (.pointer none),.v (.pointer none),I 0,N0,N0,B false,U 0,U 0,I 0,N0,N0,N0]
@[simp] def z86:ao:=[I 0,I 0,I 0,N0,N0]
@[simp] def z93:ao:=[I 0,I 0,I 0,N0,N0,.v (.pointer none),I 0,N0]
@[simp] def cE:ao:=[U 0,I 0,I 0,I 0]
@[simp] def JO:ao:=[U 0,I 0,I 0]
@[simp] def WU:ao:=[U 0,U 0,I 0,I 0]
@[simp] def qL:ao:=[S [],I 0,I 0,I 0,I 0,I 0,I 0,I 0]
@[simp] def z117:ao:=[N0,N0,N0,N0,N0,N0,N0,N0,N0,N0,N0,N0,I 0,.v (.map none)]
@[simp] def JN:ao:=[I 0,I 0,I 0,I 0,I 0]
@[simp] def z131:ao:=[N0,I 0,I 0,I 0,I 0,I 0]
@[simp] def ek:ao:=[N0,N0,N0,N0,N0,N0,N0,N0,N0,N0,N0,N0,I 0,I 0,I 0,I 0]
@[simp] def z143:ao:=[N0,N0,N0,N0,N0,N0,N0,N0,N0,N0]
@[simp] def WS:ao:=[N0,N0,I 0,I 0]
@[simp] def zn:ao:=[I 0,I 0,N0]
@[simp] def z156:ao:=[U 0,I 0]
@[simp] def dv:ao:=[U 0,I 0,I 0,I 0,I 0,S []]
@[simp] def z162:ao:=[.v (.pointer none)]
@[simp] def z164:ao:=[U 0,I 0,S [],N0]
@[simp] def NS:ao:=[U 0,I 0,S [],N0,B false]
@[simp] def bS:ao:=[U 0,I 0,I 0,I 0,S []]
@[simp] def bR:ao:=[N0,N0,N0,N0,N0,N0,N0,N0,N0,N0,I 0,I 0,I 0]
@[simp] def FI:ao:=[S [],I 0]
@[simp] def Bz:ao:=[S [],I 0,I 0]
@[simp] def FH:ao:=[S [],I 0,I 0,I 0]
@[simp] def JM:ao:=[I 0,S [],I 0,I 0,I 0]
@[simp] def pI:ao:=[I 0,I 0]
@[simp] def pH:ao:=[I 0,I 0,I 0,I 0,I 0,I 0,I 0,I 0]
@[simp] def NQ:ao:=[I 0,I 0,I 0,I 0]
@[simp] def NP:ao:=[U 0,U 0,U 0,U 0,U 0,U 0,U 0,U 0,U 0,U 0,U 0,U 0,U 0,U 0,U 0,U 0,U 0,U 0,U 0,U 0]
@[simp] def FF:ao:=[.v (.pointer none),N0]
@[simp] def WR:ao:=[N0,N0,N0,N0,N0,N0,N0,N0,N0,.v (.pointer none),.v (.pointer none),N0,.v (.map none),B false]
@[simp] def Ky:List (Nat×Nat):=[(0,1),(1,1),(2,1),(3,1),(4,1),(5,1),(6,1),(7,1),(8,1)]
@[simp] def P2:List (Nat×Nat):=[(0,1),(1,1),(2,1),(3,1),(4,1),(5,1),(6,1)]
@[simp] def kD:List (Nat×Nat):=[(0,1),(1,1),(2,1)]
@[simp] def p73:List (Nat×Nat):=[(0,1)]
@[simp] def p82:List (Nat×Nat):=[(0,9),(9,3),(12,5),(17,1),(18,1),(19,1),(20,1),(21,1),(22,1),(23,3),(26,1),(27,1),(28,1)]
@[simp] def Aq:List (Nat×Nat):=[(0,1),(1,1),(2,1),(3,1),(4,1),(5,1),(6,1),(7,1)]
@[simp] def YM:List (Nat×Nat):=[(0,9),(9,3),(12,1),(13,1)]
@[simp] def nc:List (Nat×Nat):=[(0,1),(1,1),(2,1),(3,1),(4,1)]
@[simp] def YL:List (Nat×Nat):=[(0,1),(1,1),(2,1),(3,3)]
@[simp] def YK:List (Nat×Nat):=[(0,1),(1,1),(2,9),(11,1),(12,3),(15,1)]
@[simp] def a3G:List (Nat×Nat):=[(0,9),(9,1)]
@[simp] def cM:List (Nat×Nat):=[(0,1),(1,1),(2,1),(3,1)]
@[simp] def mE:List (Nat×Nat):=[(0,1),(1,1)]
@[simp] def sV:List (Nat×Nat):=[(0,1),(1,1),(2,1),(3,1),(4,1),(5,1)]
@[simp] def P3:List (Nat×Nat):=[(0,4),(4,1)]
@[simp] def YJ:List (Nat×Nat):=[(0,9),(9,1),(10,3)]
@[simp] def YI:List (Nat×Nat):=[(0,9),(9,1),(10,2),(12,1),(13,1)]
section
variable {X:CX}
def l1 (a:TV) (k:TV->RA X):RA X:=ld false 1 a k
def lg (n:Nat) (a:TV) (k:TV->RA X):RA X:=ld true n a k
def bo (op:BinOp) (t:aP) (x y:TV) (k:TV->RA X):RA X:=boP X.P op t x y k
def uo (op:UnOp) (x:TV) (k:TV->RA X):RA X:=uoP X.P op x k
def cv (a d:aP) (x:TV) (k:TV->RA X):RA X:=cvP X.P a d x k
def sl (t:aP) (x:TV) (lo hi mx:eh) (k:TV->RA X):RA X:=slP X.P t x lo hi mx k
def ix (t:aP) (x i:TV) (k:TV->RA X):RA X:=ixP X.P t x i k
def lk (t:aP) (ok:Bool) (x i:TV) (k:TV->RA X):RA X:=lkP X.P t ok x i k
def mu (t:aP) (m i x:TV) (k:TV->RA X):RA X:=muP X.P t m i x k
def ln (t:aP) (x:TV) (k:TV->RA X):RA X:=lnP X.P t x k
def bi (b:Builtin) (ts:Array aP) (ty:aP) (cs:Array Bool) (xs:ao) (k:TV->RA X):RA X:=biP X.P b ts ty cs xs k
def mv (x:TV) (k:TV->RA X):RA X:=k x
def exw (i:Nat) (x:TV) (k:TV->RA X):RA X:=ex i x λy=>k (dz y)
def gg (w:TV) (b:Bool) (st:(TV->RA X)->RA X) (k:TV->RA X):RA X:=X.gg w b st k
def bad:RA X:=λ_ _=>X.bad
def rt (v:TV):RA X:=λ_ s=>X.rt v s
def jn {A:Type} (j:A) (f:A->RA X):RA X:=f j
def sv (f:ae->ae->RA X):RA X:=λl s=>f l s l s
def Nx:List (wZ)->wZ
 | [],_,_=>true
 | c::cs,l,s=>c l s&&Nx cs l s
def rc (cs:List (wZ)) (k:RA X):RA X:=λl s=>rV X (Nx cs l s) (k l s)
def QG (x:List (LB X)) (i:Nat):LB X:=(x[i]?).getD λ_ _ _=>X.bad
def pl (n:Nat) (x:TV) (k:TV->RA X):RA X:=pa n x λy=>l1 y k
def il (e:Nat) (x i:TV) (k:TV->RA X):RA X:=ia e x i λy=>l1 y k
def nl (n:Nat) (x:TV) (k:TV->RA X):RA X:=nk x λy=>pl n y k
def np (n:Nat) (x:TV) (k:TV->RA X):RA X:=nk x λy=>pa n y k
def ip (e n:Nat) (x i:TV) (k:TV->RA X):RA X:=ia e x i λy=>pa n y k
def pp (n m:Nat) (x:TV) (k:TV->RA X):RA X:=pa n x λy=>pa m y k
def pq (n m:Nat) (x:TV) (k:TV->RA X):RA X:=pa n x λy=>pl m y k
def ps (n:Nat) (x:TV) (m:Nat) (v:TV) (k:TV->RA X):RA X:=pa n x λy=>st m y v k
def lr (n:Nat) (x:TV):RA X:=lt true n x λv=>rt v
def ey (v:TV) (k:TV->TV->RA X):RA X:=ex 0 v λa=>ex 1 (ct 0 v) λb=>k a b
def be (t:aP) (x y:TV) (k:TV->RA X):RA X:=bo .eql t x y k
def aE (t:aP) (x y:TV) (f g:RA X):RA X:=bo .eql t x y λc=>br c f g
def bn (t:aP) (x y:TV) (k:TV->RA X):RA X:=bo .neq t x y k
def kE (t:aP) (x y:TV) (f g:RA X):RA X:=bo .neq t x y λc=>br c f g
def bl (t:aP) (x y:TV) (k:TV->RA X):RA X:=bo .lss t x y k
def cT (t:aP) (x y:TV) (f g:RA X):RA X:=bo .lss t x y λc=>br c f g
def bg (t:aP) (x y:TV) (k:TV->RA X):RA X:=bo .gtr t x y k
def HO (t:aP) (x y:TV) (f g:RA X):RA X:=bo .gtr t x y λc=>br c f g
def bm (t:aP) (x y:TV) (k:TV->RA X):RA X:=bo .leq t x y k
def WD (t:aP) (x y:TV) (f g:RA X):RA X:=bo .leq t x y λc=>br c f g
def bh (t:aP) (x y:TV) (k:TV->RA X):RA X:=bo .geq t x y k
def Tf (t:aP) (x y:TV) (f g:RA X):RA X:=bo .geq t x y λc=>br c f g
def ba (t:aP) (x y:TV) (k:TV->RA X):RA X:=bo .add t x y k
def bj (t:aP) (x y:TV) (k:TV->RA X):RA X:=bo .sub t x y k
def gt (w:TV) (f:(TV->RA X)->RA X) (k:TV->RA X):RA X:=gg w true f k
def gf (w:TV) (f:(TV->RA X)->RA X) (k:TV->RA X):RA X:=gg w false f k
def mt (w x:TV) (k:TV->RA X):RA X:=gg w true (mv x) k
def mf (w x:TV) (k:TV->RA X):RA X:=gg w false (mv x) k
def ck (K:Nat) (xs:ao) (k:TV->TV->RA X):RA X:=af K xs λv=>ey v k
def gj (w:TV) (f:(TV->RA X)->RA X) (k:TV->RA X):RA X:=gt w f λv=>pk w v Bf k
def gk (w:TV) (f:(TV->RA X)->RA X) (k:TV->RA X):RA X:=gf w f λv=>pk w Bt v k
def pb (w x y:TV) (f g:RA X):RA X:=pk w x y λc=>br c f g
def iq (e n:Nat) (x i:TV) (k:TV->RA X):RA X:=ia e x i λy=>pl n y k
def cz (K:Nat) (xs:ao) (n:Nat) (x:TV) (k:TV->RA X):RA X:=af K xs λv=>st n x v k
def lz (m:Nat) (y:TV) (n:Nat) (x:TV) (k:TV->RA X):RA X:=lg m y λv=>st n x v k
def lc (m:Nat) (y:TV) (K:Nat) (k:TV->RA X):RA X:=lg m y λv=>af K [v] k
def rv (xs:ao):RA X:=rt (.tu xs)
def ly (n:Nat) (x:TV) (k:TV->RA X):RA X:=lt true n x k
def sx (n:Nat) (x v:TV) (k:RA X):RA X:=st n x v λ_=>k
def px (n:Nat) (x:TV) (m:Nat) (v:TV) (k:RA X):RA X:=ps n x m v λ_=>k
def cx (K:Nat) (xs:ao) (n:Nat) (x:TV) (k:RA X):RA X:=cz K xs n x λ_=>k
def lx (m:Nat) (y:TV) (n:Nat) (x:TV) (k:RA X):RA X:=lz m y n x λ_=>k
def oG:List (Nat×aA×(List (LB X)->LB X->LB X))->Nat->aA×(List (LB X)->LB X->LB X)
 | [],_=>([],λ_ k=>k)
 | e::r,p=>bif Nat.beq p e.1 then e.2 else oG r p
def lq (lv:aA) (b:LB X->LB X) (τ:TF):RA X:=lp lv b (lv.map τ)
end
def rl (pd qe ro:Bool) (y:eh) (g:Bool) (n:Nat) (a v:TV) (l0 s0:ae):wZ:=λl s=>(pd&&tq qe ro y a l0 s0&&zx v)||Io (fk g n l s a) v
def rm (n:Nat) (a v:TV) (l0 s0:ae):wZ:=rl true true true none true n a v l0 s0
def rn (a v:TV) (l0 s0:ae):wZ:=rl true true true none false 1 a v l0 s0
def aT {X:CX} (t:List (Nat×aA×(List (LB X)->LB X->LB X))):cL X:=λp x τ=>lp (oG t p).1 ((oG t p).2 x) ((oG t p).1.map τ)
def rlk (X:CX) (t:Nat) (ok:Bool) (x i v:TV):wZ:=λl s=>Io (Ft X.P t ok x i l s) v
def jY (X:CX) (t:Nat) (x:TV) (lo hi mx:eh) (v:TV):wZ:=λl s=>Io (aK X.P t lo hi mx l s x) v
def VU (X:CX) (a d:Nat) (x v:TV):wZ:=λl s=>Io (bJ X.P a d x l s) v
def Yv (X:CX) (t:Nat) (x v:TV):wZ:=λl s=>Io (eO X.P t x l s) v
def rw (want:Bool) (w:TV) (c:wZ):wZ:=λl s=>Vf (Nh want w) (c l s)
def als {X:CX} (z:ao) (n:Nat) (k:TV->RA X):RA X:=λl s=>k (.p true s.length 0) l (s++[.row z n])
def dy {X:CX} (an:Nat) (f:TV) (xs:ao) (k:TV->RA X):RA X:=λl s=>match Ir X.P f with
 | some K=>bif AA.aM (K+1000*an) then cl (K+1000*an) xs k l s else af (K+1000*an) xs k l s
 | none=>X.bad
def nh {X:CX}:cL X:=λ_ _ _ _ _=>X.bad
def a0 {X:CX} (f:RA X) (_:ao):RA X:=f
def a1 {X:CX} (f:TV->RA X) (l:ao):RA X:=f (l.getD 0 .u)
def a2 {X:CX} (f:TV->TV->RA X) (l:ao):RA X:=f (l.getD 0 .u) (l.getD 1 .u)
def a3 {X:CX} (f:TV->TV->TV->RA X) (l:ao):RA X:=f (l.getD 0 .u) (l.getD 1 .u) (l.getD 2 .u)
def a4 {X:CX} (f:TV->TV->TV->TV->RA X) (l:ao):RA X:=f (l.getD 0 .u) (l.getD 1 .u) (l.getD 2 .u) (l.getD 3 .u)
def a5 {X:CX} (f:TV->TV->TV->TV->TV->RA X) (l:ao):RA X:=f (l.getD 0 .u) (l.getD 1 .u) (l.getD 2 .u) (l.getD 3 .u) (l.getD 4 .u)
def a6 {X:CX} (f:TV->TV->TV->TV->TV->TV->RA X) (l:ao):RA X:=f (l.getD 0 .u) (l.getD 1 .u) (l.getD 2 .u) (l.getD 3 .u) (l.getD 4 .u) (l.getD 5 .u)
def a7 {X:CX} (f:TV->TV->TV->TV->TV->TV->TV->RA X) (l:ao):RA X:=f (l.getD 0 .u) (l.getD 1 .u) (l.getD 2 .u) (l.getD 3 .u) (l.getD 4 .u) (l.getD 5 .u) (l.getD 6 .u)
def a8 {X:CX} (f:TV->TV->TV->TV->TV->TV->TV->TV->RA X) (l:ao):RA X:=f (l.getD 0 .u) (l.getD 1 .u) (l.getD 2 .u) (l.getD 3 .u) (l.getD 4 .u) (l.getD 5 .u) (l.getD 6 .u) (l.getD 7 .u)
def a9 {X:CX} (f:TV->TV->TV->TV->TV->TV->TV->TV->TV->RA X) (l:ao):RA X:=f (l.getD 0 .u) (l.getD 1 .u) (l.getD 2 .u) (l.getD 3 .u) (l.getD 4 .u) (l.getD 5 .u) (l.getD 6 .u) (l.getD 7 .u) (l.getD 8 .u)
def a10 {X:CX} (f:TV->TV->TV->TV->TV->TV->TV->TV->TV->TV->RA X) (l:ao):RA X:=f (l.getD 0 .u) (l.getD 1 .u) (l.getD 2 .u) (l.getD 3 .u) (l.getD 4 .u) (l.getD 5 .u) (l.getD 6 .u) (l.getD 7 .u) (l.getD 8 .u) (l.getD 9 .u)
def JD {X:CX} (f:TV->TV->TV->TV->TV->TV->TV->TV->TV->TV->TV->RA X) (l:ao):RA X:=f (l.getD 0 .u) (l.getD 1 .u) (l.getD 2 .u) (l.getD 3 .u) (l.getD 4 .u) (l.getD 5 .u) (l.getD 6 .u) (l.getD 7 .u) (l.getD 8 .u) (l.getD 9 .u) (l.getD 10 .u)
end Q
def cF (f:Func):Code:=f.body.getD .skip
def dp (K:Nat):Bool:=Nat.blt (real K) 257&& !Ef (real K) [6,25,52,56,225,236,238,240,242,244,247,255,256]
def okF (K:Nat) (f:Func) (n:Nat):Bool:=dp K&&f.body.isSome&&Nat.ble n f.ntmps
structure BE (K:Nat) (f:Func) (n:Nat) (b:(X:CX)->ao->RA X):Prop where
 hf:prog.funcs[real K]? =some f
 ok:okF K f n=true
 eq:∀(X:CX) (ts:ao) (s:ae),ts.length=n->qw prog AA Pl (X.wp prog) K f (cF f) ts X.rt s=b (X.wp prog) ts [] s
noncomputable def Jw (K:Nat):Func:=(prog.funcs[real K]?).getD default
abbrev Q.E0 (K:Nat) (b:{X:CX}->RA X):Prop:=BE K (Jw K) 0 λ_=>Q.a0 b
abbrev Q.E1 (K:Nat) (b:{X:CX}->TV->RA X):Prop:=BE K (Jw K) 1 λ_=>Q.a1 b
abbrev Q.E2 (K:Nat) (b:{X:CX}->TV->TV->RA X):Prop:=BE K (Jw K) 2 λ_=>Q.a2 b
abbrev Q.E3 (K:Nat) (b:{X:CX}->TV->TV->TV->RA X):Prop:=BE K (Jw K) 3 λ_=>Q.a3 b
abbrev Q.E4 (K:Nat) (b:{X:CX}->TV->TV->TV->TV->RA X):Prop:=BE K (Jw K) 4 λ_=>Q.a4 b
abbrev Q.E5 (K:Nat) (b:{X:CX}->TV->TV->TV->TV->TV->RA X):Prop:=BE K (Jw K) 5 λ_=>Q.a5 b
abbrev Q.E6 (K:Nat) (b:{X:CX}->TV->TV->TV->TV->TV->TV->RA X):Prop:=BE K (Jw K) 6 λ_=>Q.a6 b
abbrev Q.E7 (K:Nat) (b:{X:CX}->TV->TV->TV->TV->TV->TV->TV->RA X):Prop:=BE K (Jw K) 7 λ_=>Q.a7 b
abbrev LX (P:aB) (X:CX) (K:Nat) (f:Func) (Λ:cL X) (ts:ao) (s:ae):X.R:=dP P AA Pl X K Λ [] 1 (cF f) (aI ts) [] s (gP P X f.results.toList X.rt) (λ_ _ _ _=>X.bad) (gP P X f.results.toList X.rt)
section
variable {P:aB} {A:An} {Pl:cQ} {X:CX} {K:Nat} {Λ:cL X} {x:List (LB X)} {p n:Nat} {a b c:Code} {kn:KN X} {ke:Nat->KN X} {kr:KN X}
theorem kx.l (h:iD c=true:=by kernel_rfl):kx P A Pl X K Λ x p c kn ke kr:=.leaf h
theorem kx.s (h:kx P A Pl X K Λ x (2*p+1) b kn ke kr) (h0:iD a=true:=by kernel_rfl):kx P A Pl X K Λ x p (.seq a b) kn ke kr:=.seq (.leaf h0) h
theorem kx.q (h:kx P A Pl X K Λ x (2*(2*(2*p)+1)) b (λτ l s=>dP P A Pl X K Λ x (2*p+1) c τ l s kn ke kr) (λi τ l s=>bif Nat.beq i n then dP P A Pl X K Λ x (2*p+1) c τ l s kn ke kr else ke i τ l s) kr) (h2:kx P A Pl X K Λ x (2*p+1) c kn ke kr) (h0:iD a=true:=by kernel_rfl):kx P A Pl X K Λ x p (.seq (.seq a (.block n b)) c) kn ke kr:=.seq (.s (.block h) h0) h2
theorem kx.lt {t:List (Nat×aA×(List (LB X)->LB X->LB X))} (h:∀k:LB X,kx P A Pl X K (Q.aT t) (k::x) (2*p) c (λτ l s=>k ((Q.oG t p).1.map τ) l s) ke kr) (h1:A.lv K p=(Q.oG t p).1:=by kernel_rfl) (h2:∀k τ l s,dP P A Pl X K (Q.aT t) (k::x) (2*p) c (eg (Q.oG t p).1 ((Q.oG t p).1.map τ)) l s (λτ l s=>k ((Q.oG t p).1.map τ) l s) ke kr=(Q.oG t p).2 x k ((Q.oG t p).1.map τ) l s:=by intros;kernel_rfl):kx P A Pl X K (Q.aT t) x p (.loop c) kn ke kr:=.loop _ _ h1 h2 (λ_ _ _=>rfl) h
end
section
variable {K:Nat} {f:Func} {b:(X:CX)->ao->RA X}
theorem BE.of {n:Nat} {Λ:(X:CX)->cL X} (hf:prog.funcs[real K]? =some f) (ok:okF K f n=true) (hl:∀X:CX,kx prog AA Pl (X.wp prog) K (Λ (X.wp prog)) [] 1 (cF f) (gP prog (X.wp prog) f.results.toList X.rt) (λ_ _ _ _=>X.bad) (gP prog (X.wp prog) f.results.toList X.rt))
  (h:∀(X:CX) (ts:ao) (s:ae),ts.length=n->LX prog (X.wp prog) K f (Λ (X.wp prog)) ts s=b (X.wp prog) ts [] s):BE K f n b:=
 ⟨hf,ok,λX ts s hn=>((hl X).body (X:=X.wp prog) s).trans (h X ts s hn)⟩
theorem Bl {n:Nat} (ok:(okF K f n&&iD (cF f))=true):okF K f n=true/\iD (cF f)=true:=by simpa using ok
theorem BE.f1 (hf:prog.funcs[real K]? =some f:=by kernel_rfl) (ok:(okF K f 1&&iD (cF f))=true:=by kernel_rfl) (h:∀(X:CX) (t0:TV) (s:ae),LX prog (X.wp prog) K f Q.nh [t0] s=b (X.wp prog) [t0] [] s:=by intros;kernel_rfl):BE K f 1 b:=
 .of (Λ:=λ_=>Q.nh) hf (Bl ok).1 (λ_=>.leaf (Bl ok).2) λX ts s hn=>by
  match ts,hn with
  | [t0],_=>exact h X t0 s
theorem BE.G1 (Λ:(X:CX)->cL X) (hl:∀X:CX,kx prog AA Pl (X.wp prog) K (Λ (X.wp prog)) [] 1 (cF f) (gP prog (X.wp prog) f.results.toList X.rt) (λ_ _ _ _=>X.bad) (gP prog (X.wp prog) f.results.toList X.rt)) (hf:prog.funcs[real K]? =some f:=by kernel_rfl) (ok:okF K f 1=true:=by kernel_rfl) (h:∀(X:CX) (t0:TV) (s:ae),LX prog (X.wp prog) K f (Λ (X.wp prog)) [t0] s=b (X.wp prog) [t0] [] s:=by intros;kernel_rfl):BE K f 1 b:=
 .of hf ok hl λX ts s hn=>by
  match ts,hn with
  | [t0],_=>exact h X t0 s
theorem BE.f2 (hf:prog.funcs[real K]? =some f:=by kernel_rfl) (ok:(okF K f 2&&iD (cF f))=true:=by kernel_rfl) (h:∀(X:CX) (t0 t1:TV) (s:ae),LX prog (X.wp prog) K f Q.nh [t0,t1] s=b (X.wp prog) [t0,t1] [] s:=by intros;kernel_rfl):BE K f 2 b:=
 .of (Λ:=λ_=>Q.nh) hf (Bl ok).1 (λ_=>.leaf (Bl ok).2) λX ts s hn=>by
  match ts,hn with
  | [t0,t1],_=>exact h X t0 t1 s
theorem BE.G2 (Λ:(X:CX)->cL X) (hl:∀X:CX,kx prog AA Pl (X.wp prog) K (Λ (X.wp prog)) [] 1 (cF f) (gP prog (X.wp prog) f.results.toList X.rt) (λ_ _ _ _=>X.bad) (gP prog (X.wp prog) f.results.toList X.rt)) (hf:prog.funcs[real K]? =some f:=by kernel_rfl) (ok:okF K f 2=true:=by kernel_rfl) (h:∀(X:CX) (t0 t1:TV) (s:ae),LX prog (X.wp prog) K f (Λ (X.wp prog)) [t0,t1] s=b (X.wp prog) [t0,t1] [] s:=by intros;kernel_rfl):BE K f 2 b:=
 .of hf ok hl λX ts s hn=>by
  match ts,hn with
  | [t0,t1],_=>exact h X t0 t1 s
theorem BE.f3 (hf:prog.funcs[real K]? =some f:=by kernel_rfl) (ok:(okF K f 3&&iD (cF f))=true:=by kernel_rfl) (h:∀(X:CX) (t0 t1 t2:TV) (s:ae),LX prog (X.wp prog) K f Q.nh [t0,t1,t2] s=b (X.wp prog) [t0,t1,t2] [] s:=by intros;kernel_rfl):BE K f 3 b:=
 .of (Λ:=λ_=>Q.nh) hf (Bl ok).1 (λ_=>.leaf (Bl ok).2) λX ts s hn=>by
  match ts,hn with
  | [t0,t1,t2],_=>exact h X t0 t1 t2 s
theorem BE.G3 (Λ:(X:CX)->cL X) (hl:∀X:CX,kx prog AA Pl (X.wp prog) K (Λ (X.wp prog)) [] 1 (cF f) (gP prog (X.wp prog) f.results.toList X.rt) (λ_ _ _ _=>X.bad) (gP prog (X.wp prog) f.results.toList X.rt)) (hf:prog.funcs[real K]? =some f:=by kernel_rfl) (ok:okF K f 3=true:=by kernel_rfl) (h:∀(X:CX) (t0 t1 t2:TV) (s:ae),LX prog (X.wp prog) K f (Λ (X.wp prog)) [t0,t1,t2] s=b (X.wp prog) [t0,t1,t2] [] s:=by intros;kernel_rfl):BE K f 3 b:=
 .of hf ok hl λX ts s hn=>by
  match ts,hn with
  | [t0,t1,t2],_=>exact h X t0 t1 t2 s
theorem BE.f4 (hf:prog.funcs[real K]? =some f:=by kernel_rfl) (ok:(okF K f 4&&iD (cF f))=true:=by kernel_rfl) (h:∀(X:CX) (t0 t1 t2 t3:TV) (s:ae),LX prog (X.wp prog) K f Q.nh [t0,t1,t2,t3] s=b (X.wp prog) [t0,t1,t2,t3] [] s:=by intros;kernel_rfl):BE K f 4 b:=
 .of (Λ:=λ_=>Q.nh) hf (Bl ok).1 (λ_=>.leaf (Bl ok).2) λX ts s hn=>by
  match ts,hn with
  | [t0,t1,t2,t3],_=>exact h X t0 t1 t2 t3 s
theorem BE.G4 (Λ:(X:CX)->cL X) (hl:∀X:CX,kx prog AA Pl (X.wp prog) K (Λ (X.wp prog)) [] 1 (cF f) (gP prog (X.wp prog) f.results.toList X.rt) (λ_ _ _ _=>X.bad) (gP prog (X.wp prog) f.results.toList X.rt)) (hf:prog.funcs[real K]? =some f:=by kernel_rfl) (ok:okF K f 4=true:=by kernel_rfl) (h:∀(X:CX) (t0 t1 t2 t3:TV) (s:ae),LX prog (X.wp prog) K f (Λ (X.wp prog)) [t0,t1,t2,t3] s=b (X.wp prog) [t0,t1,t2,t3] [] s:=by intros;kernel_rfl):BE K f 4 b:=
 .of hf ok hl λX ts s hn=>by
  match ts,hn with
  | [t0,t1,t2,t3],_=>exact h X t0 t1 t2 t3 s
theorem BE.f5 (hf:prog.funcs[real K]? =some f:=by kernel_rfl) (ok:(okF K f 5&&iD (cF f))=true:=by kernel_rfl) (h:∀(X:CX) (t0 t1 t2 t3 t4:TV) (s:ae),LX prog (X.wp prog) K f Q.nh [t0,t1,t2,t3,t4] s=b (X.wp prog) [t0,t1,t2,t3,t4] [] s:=by intros;kernel_rfl):BE K f 5 b:=
 .of (Λ:=λ_=>Q.nh) hf (Bl ok).1 (λ_=>.leaf (Bl ok).2) λX ts s hn=>by
  match ts,hn with
  | [t0,t1,t2,t3,t4],_=>exact h X t0 t1 t2 t3 t4 s
theorem BE.G5 (Λ:(X:CX)->cL X) (hl:∀X:CX,kx prog AA Pl (X.wp prog) K (Λ (X.wp prog)) [] 1 (cF f) (gP prog (X.wp prog) f.results.toList X.rt) (λ_ _ _ _=>X.bad) (gP prog (X.wp prog) f.results.toList X.rt)) (hf:prog.funcs[real K]? =some f:=by kernel_rfl) (ok:okF K f 5=true:=by kernel_rfl) (h:∀(X:CX) (t0 t1 t2 t3 t4:TV) (s:ae),LX prog (X.wp prog) K f (Λ (X.wp prog)) [t0,t1,t2,t3,t4] s=b (X.wp prog) [t0,t1,t2,t3,t4] [] s:=by intros;kernel_rfl):BE K f 5 b:=
 .of hf ok hl λX ts s hn=>by
  match ts,hn with
  | [t0,t1,t2,t3,t4],_=>exact h X t0 t1 t2 t3 t4 s
theorem BE.f7 (hf:prog.funcs[real K]? =some f:=by kernel_rfl) (ok:(okF K f 7&&iD (cF f))=true:=by kernel_rfl) (h:∀(X:CX) (t0 t1 t2 t3 t4 t5 t6:TV) (s:ae),LX prog (X.wp prog) K f Q.nh [t0,t1,t2,t3,t4,t5,t6] s=b (X.wp prog) [t0,t1,t2,t3,t4,t5,t6] [] s:=by intros;kernel_rfl):BE K f 7 b:=
 .of (Λ:=λ_=>Q.nh) hf (Bl ok).1 (λ_=>.leaf (Bl ok).2) λX ts s hn=>by
  match ts,hn with
  | [t0,t1,t2,t3,t4,t5,t6],_=>exact h X t0 t1 t2 t3 t4 t5 t6 s
end
end T
namespace V
open Go
variable {a b c d e f g:Nat} {u v w:Value} {i j k:Int} {t:TypeId} {p:List Value} {q:Bool} {n:IntKind}
section
variable {P:aB}
theorem ar {b c:Type} (s:Sem b) (f:b->Sem c):aj P (s>>=f)=(aj P s).bind λa=>aj P (f a):=rD s f
theorem ay {b:Type} (a:b):aj P (pure a:Sem b)=some a:=rfl
theorem dr {d:TypeDesc} (h:P.underlying t=some d):aj P (Go.underlying t)=some d:=by unfold Go.underlying;show aj P (match P.underlying t with|some d=>pure d|none=>stuck _)=_;rw [h];rfl
theorem vE (h:bq u):dt (some u)=some u:=by unfold dt;exact zP h
theorem bE {a:BinOp} (b:bq u) (c:bq v) (d:ox u) (e:aj P (eqGuard a t (.tmp 0) (.tmp 0) u v)=some ()) (f:aj P (binOp a t u v)=some w) (g:bq w):cZ P a t u v=some w:=by unfold cZ;rw [b,c,d];show dt _=_;rw [ar,e];show dt (aj P (binOp a t u v))=_;rw [f,vE g]
section
variable (D:aP) (k:IntKind) (a E:Int)
theorem bU (b:BinOp) (c:IntKind):aj P (eqGuard b D (.tmp 0) (.tmp 0) (.int k a) (.int c E))=some ():=by cases b <;> rfl
theorem kg (b:BinOp) (a E:aU):aj P (eqGuard b D (.tmp 0) (.tmp 0) (.string a) (.string E))=some ():=by cases b <;> rfl
theorem vR (b:BinOp) (a E:Bool):aj P (eqGuard b D (.tmp 0) (.tmp 0) (.bool a) (.bool E))=some ():=by cases b <;> rfl
theorem My:cZ P .add D (.int k a) (.int k E)=some (.int k (k.wrap (a+E))):=bE rfl rfl rfl (bU _ _ _ _ _ _) (by simp [binOp,Op.intArith,ay]) rfl
theorem Mg:cZ P .sub D (.int k a) (.int k E)=some (.int k (k.wrap (a-E))):=bE rfl rfl rfl (bU _ _ _ _ _ _) (by simp [binOp,Op.intArith,ay]) rfl
theorem Mn:cZ P .mul D (.int k a) (.int k E)=some (.int k (k.wrap (a*E))):=bE rfl rfl rfl (bU _ _ _ _ _ _) (by simp [binOp,Op.intArith,ay]) rfl
theorem Mo:cZ P .lss D (.int k a) (.int k E)=some (.bool (decide (a<E))):=bE rfl rfl rfl (bU _ _ _ _ _ _) (by simp [binOp,Op.intCmp,ay]) rfl
theorem Mp:cZ P .leq D (.int k a) (.int k E)=some (.bool (decide (a<=E))):=bE rfl rfl rfl (bU _ _ _ _ _ _) (by simp [binOp,Op.intCmp,ay]) rfl
theorem Mr:cZ P .gtr D (.int k a) (.int k E)=some (.bool (decide (E<a))):=bE rfl rfl rfl (bU _ _ _ _ _ _) (by simp [binOp,Op.intCmp,ay]) rfl
theorem Ms:cZ P .geq D (.int k a) (.int k E)=some (.bool (decide (E<=a))):=bE rfl rfl rfl (bU _ _ _ _ _ _) (by simp [binOp,Op.intCmp,ay]) rfl
theorem Mv:cZ P .eql D (.int k a) (.int k E)=some (.bool (decide (a=E))):=bE rfl rfl rfl (bU _ _ _ _ _ _) (by simp [binOp,Op.intCmp,ay];by_cases h:a=E <;> simp [h]) rfl
theorem Mm:cZ P .neq D (.int k a) (.int k E)=some (.bool (!decide (a=E))):=bE rfl rfl rfl (bU _ _ _ _ _ _) (by simp [binOp,Op.intCmp,ay];by_cases h:a=E <;> simp [h]) rfl
theorem Mj (h:E≠0):cZ P .quo D (.int k a) (.int k E)=some (.int k (k.wrap (a.tdiv E))):=bE rfl rfl rfl (bU _ _ _ _ _ _) (by simp [binOp,Op.intDiv,h,ay]) rfl
theorem Mi (h:E≠0):cZ P .rem D (.int k a) (.int k E)=some (.int k (a.tmod E)):=bE rfl rfl rfl (bU _ _ _ _ _ _) (by simp [binOp,Op.intDiv,h,ay]) rfl
theorem Mh (b:IntKind) (h:0<=E):cZ P .shl D (.int k a) (.int b E)=some (.int k (k.wrap (a*2^(min E.toNat k.bits)))):=bE rfl rfl rfl (bU _ _ _ _ _ _) (by simp [binOp,Op.shift,show ¬E<0 by omega,ay]) rfl
theorem EZ (b:IntKind) (h:0<=E):cZ P .shr D (.int k a) (.int b E)=some (.int k (a.fdiv (2^(min E.toNat k.bits)))):=bE rfl rfl rfl (bU _ _ _ _ _ _) (by simp [binOp,Op.shift,show ¬E<0 by omega,ay]) rfl
theorem Tb:cZ P .or D (.int k a) (.int k E)=some (.int k (k.wrap (BitVec.ofInt k.bits a||| BitVec.ofInt k.bits E).toNat)):=bE rfl rfl rfl (bU _ _ _ _ _ _) (by simp [binOp,Op.intBits,ay]) rfl
theorem F0:cZ P .and D (.int k a) (.int k E)=some (.int k (k.wrap (BitVec.ofInt k.bits a&&& BitVec.ofInt k.bits E).toNat)):=bE rfl rfl rfl (bU _ _ _ _ _ _) (by simp [binOp,Op.intBits,ay]) rfl
theorem qA (a:aU):a.toList=a.data.toList:=by
 have e:∀(n i:Nat) (r:List UInt8),i+n=a.size->ByteArray.toList.loop a i r=r.reverse++a.data.toList.drop i:=by
  intro n;induction n with
  | zero=>
   intro i r h;unfold ByteArray.toList.loop;have:a.data.toList.length<=i:=by have:a.size=a.data.toList.length:=rfl;omega
   rw [zO O,yT this,List.append_nil]
  | succ n d=>
   intro i r h;unfold ByteArray.toList.loop;rw [zP O,d (i+1) _ O];have b:i<a.data.toList.length:=by have:a.size=a.data.toList.length:=rfl;omega
   rw [yG b,List.reverse_cons,yW];congr 1;have:a.get! i=a.data.toList[i]:=by
    have c:i<a.data.size:=by simpa using b
    simp only [ByteArray.get!];rw [getElem!_pos a.data i c];simp
   rw [this];rfl
 have:=e a.size 0 [] O;simpa [ByteArray.toList] using this
theorem yc (a E:aU):(a.toList==E.toList)=decide (a=E):=by rw [qA,qA];by_cases h:a=E;subst h;simp;have:=λe=>h (ByteArray.ext (Array.ext' e));rw [decide_eq_false h];exact beq_eq_false_iff_ne.2 this
theorem Mt (a E:aU):cZ P .eql D (.string a) (.string E)=some (.bool (decide (a=E))):=bE rfl rfl rfl (kg _ _ _ _) (by simp only [binOp,Op.stringOp,ay,yc]) rfl
theorem Ml (a E:aU):cZ P .neq D (.string a) (.string E)=some (.bool (!decide (a=E))):=bE rfl rfl rfl (kg _ _ _ _) (by simp only [binOp,Op.stringOp,ay,yc]) rfl
theorem Mx (a E:aU) (h:a.size+E.size<9223372036854775808):cZ P .add D (.string a) (.string E)=some (.string (a++E)):=bE rfl rfl rfl (kg _ _ _ _) (by
 have:¬(((a.size+E.size:Nat):Int)>i64.max):=by
  have:i64.max=9223372036854775807:=by decide
  omega
 simp only [binOp,Op.stringOp];rw [zO this];rfl) rfl
theorem Mw (a E:Bool) (h:P.underlying D=some .bool):cZ P .eql D (.bool a) (.bool E)=some (.bool (decide (a=E))):=bE rfl rfl rfl (vR _ _ _ _) (by
 have e:=dr h;have b:∀d,aj P (Op.equalIn (d+1) D (.bool a) (.bool E))=some (a==E):=by intro d;simp only [Op.equalIn,ar,e];rfl
 show aj P (Op.equal D (.bool a) (.bool E)>>=λc=>pure (Value.bool c))=_;rw [ar];show (aj P (Op.equalIn Op.maxDepth D (.bool a) (.bool E))).bind _=_;rw [show Op.maxDepth=(Op.maxDepth-1)+1 from rfl,b];show some (Value.bool (a==E))=_;cases a <;> cases E <;> rfl) rfl
theorem JX (E:Bool):FB P .not (.bool E)=some (.bool (!E)):=by unfold FB;rw [zP (rfl:bq _)];simp only [Op.unary,ay];rfl
theorem JY:FB P .neg (.int k E)=some (.int k (k.wrap (0-E))):=by unfold FB;rw [zP (rfl:bq _)];simp only [Op.unary,Op.intArith,ay];rfl
theorem LC (a:aU) (h:0<=E/\E<a.size) (d:P.underlying D=some .string):lh P D (.string a) (.int k E)=some (.int .u8 ((a.data.toList.getD E.toNat 0).toNat:Nat)):=by
 have b:E.toNat<a.size:=O;have e:aj P (Instr.index D (.string a) (.int k E))=some (.int .u8 ((a[E.toNat]'b).toNat:Nat)):=by simp only [Instr.index,ar,asIntOf,ay,dr d,zR,zP h.1];rw [getElem?_pos a E.toNat b];rfl
 unfold lh;rw [show (bq (.string a)&&bq (.int k E))=true from rfl,zP rfl,e];have:a[E.toNat]'b=a.data.toList.getD E.toNat 0:=by
  have c:E.toNat<a.data.toList.length:=by simpa using b
  rw [zG,zA c];rfl
 rw [this];rfl
end
end
section
variable {P:aB} {D:aP} {a E:aU} {H:AH} {k J:IntKind} {lo h:Int}
theorem yf {w:BoundsCode} (a:0<=h) (c:h<=b):aj P (Instr.sliceBound (.int k h) b w)=some h.toNat:=by simp only [Instr.sliceBound,ar,asIntOf,ay,zR,zP (And.intro a c)]
theorem N2 (b:0<=lo) (f:lo<=h) (c:h<=a.size) (d:P.underlying D=some .string):pG P D (.string a) (some (.int k lo)) (some (.int J h)) none H=some (.string (a.extract lo.toNat h.toNat)):=by
 have e:aj P (Instr.sliceAt D (.string a) (some (.int k lo)) (some (.int J h)) none)=some (.string (a.extract lo.toNat h.toNat)):=by simp only [Instr.sliceAt,Instr.slice,Instr.sliceBounds,ar,dr d,zR];simp [ar,yf (show 0<=h by omega) c];rw [map_eq_pure_bind,ar,yf b O];rfl
 simp only [pG];rw [e];rfl
theorem N3 (b:0<=lo) (c:lo<=a.size) (d:P.underlying D=some .string):pG P D (.string a) (some (.int k lo)) none none H=some (.string (a.extract lo.toNat a.size)):=by
 have e:aj P (Instr.sliceAt D (.string a) (some (.int k lo)) none none)=some (.string (a.extract lo.toNat a.size)):=by simp only [Instr.sliceAt,Instr.slice,Instr.sliceBounds,ar,dr d,zR];simp;rw [map_eq_pure_bind,ar,yf b c];rfl
 simp only [pG];rw [e];rfl
def strLt (a E:aU):Bool:=Op.bytesLess a.toList E.toList
theorem Mq:cZ P .gtr D (.string a) (.string E)=some (.bool (!(strLt a E||a.toList==E.toList))):=bE rfl rfl rfl (kg _ _ _ _) (by simp only [binOp,Op.stringOp,ay,strLt]) rfl
end
theorem bW {x:Int} (a:-9223372036854775808<=x) (b:x<9223372036854775808):i64.wrap x=x:=by simp only [IntKind.wrap,IntKind.signed,IntKind.bits];simp;omega
theorem w8 {x:Int} (a:0<=x) (b:x<256):u8.wrap x=x:=by simp only [IntKind.wrap,IntKind.signed,IntKind.bits];simp;omega
def isI (P:aB) (t:aP) (k:IntKind):Bool:=match P.underlying t with|some (.int a)=>decide (a=k)|_=>false
theorem T5 {P:aB} {d:aP} (b:(P.underlying t).isSome) (h:isI P d n) (k:IntKind) (a:Int) (H:AH):gH P t d (.int k a) H=some (.int n (n.wrap a),H):=by
 unfold isI at h;split at h;rename_i c g;simp at h;subst h;have ⟨f,b⟩:=xM.1 b;have e:aj P (convert t d (.int k a))=some (.int c (c.wrap a)):=by unfold convert;rw [ar,dr b,zR,ar,dr g,zR];cases f <;> rfl
 show (if bq (.int k a)=true then (dt (aj P (convert t d (.int k a)))).map λv=>(v,H) else none)=_;rw [zP (show bq (.int k a)=true from rfl),e];rfl;cases h
end V
namespace T
open Go V Q
variable {a b c d e f g:Nat} {u v w:Value} {i j k:Int} {t:TypeId} {p:List Value} {n:IntKind} {x y z:TV} {r s:List TO}
theorem rr {b:Sort _} {a:b}:a=a:=Eq.trans (Eq.refl _) (Eq.refl _)
def fp {b:Type}:List b->Nat->Option b
 | [],_=>none
 | a::_,0=>some a
 | _::l,n+1=>fp l n
theorem dS {c:Type} (l:List c) (n:Nat):l[n]? =fp l n:=by
 induction l generalizing n with
 | nil=>rfl
 | cons a l b=>cases n with
  | zero=>rfl
  | succ n=>simp [fp,b]
@[simp ↓] theorem a0j {b:Type} (a:b) (l:List b):fp (a::l) 0=some a:=rfl
@[simp ↓] theorem a0i {b:Type} (a:b) (l:List b) (n:Nat):fp (a::l) (n+1)=fp l n:=rfl
def EN (P:aB) (K:Nat) (b:ao) (s:ae) (a:Nat) (k:jw):Prop:=Ends P AA Pl dp K b s a k
abbrev Xc (P:aB) (a:Nat) (r:jw):CX:=XP P AA Pl dp a r
def mk {b:Type} (a:b):b:=a
@[simp] theorem a3K {b:Type} (a:b):mk a=a:=rr
@[simp] theorem a42 (P:aB) (a:Nat) (r:jw):(Xc P a r).P=P:=rr
@[simp] theorem a2r (P:aB) (a:Nat) (r:jw):(Xc P a r).fl=a:=rr
section
variable {X:CX}
def nx (k:TV->RA X) (v:TV) (l s:ae):X.R:=k v l s
def nI (o:eh) (k:TV->RA X) (l s:ae):X.R:=bd X o λv=>k v l s
def Tg (o:Option (ae×ae)) (k:TV->RA X):X.R:=bd X o λp=>k (.tu []) p.1 p.2
def FA (o:Option (TV×ae×ae)) (k:TV->RA X):X.R:=bd X o λp=>k p.1 p.2.1 p.2.2
def Ma (b:Bool) (r:X.R):X.R:=rV X b r
def P1 (c a b:TV) (k:TV->RA X) (l s:ae):X.R:=match c with
 | .v (.bool t)=>k (bw (bif t then a else b)) l s
 | _=>X.bad
@[congr] theorem a3I {k:TV->RA X} {a b:ae} (c:mk x=y) (d:r=s) (e:a=b):nx k x r a=nx k y s b:=by subst c;subst d;subst e;rfl
@[congr] theorem a2o {k:TV->RA X} {o a:eh} (h:mk o=a):nI o k r s=nI a k r s:=by subst h;rfl
@[congr] theorem a2m {k:TV->RA X} {o a:Option (ae×ae)} (h:mk o=a):Tg o k=Tg a k:=by subst h;rfl
@[congr] theorem a2k {k:TV->RA X} {o a:Option (TV×ae×ae)} (h:mk o=a):FA o k=FA a k:=by subst h;rfl
@[congr] theorem a1Q {b a:Bool} {r:X.R} (h:mk b=a):Ma b r=Ma a r:=by subst h;rfl
@[congr] theorem a1G {b:TV} {k:TV->RA X} (h:mk x=y):P1 x z b k r s=P1 y z b k r s:=by subst h;rfl
@[simp] theorem a3H {k:TV->RA X}:nx k x r s=k x r s:=rr
@[simp] theorem a2n {k:TV->RA X}:nI (some x) k r s=k x r s:=rr
@[simp] theorem a2l {k:TV->RA X}:Tg (some (r,s)) k=k (.tu []) r s:=rr
@[simp] theorem a2j {k:TV->RA X}:FA (some (x,r,s)) k=k x r s:=rr
@[simp] theorem a1P {r:X.R}:Ma true r=r:=rr
@[simp] theorem a1E {k:TV->RA X}:P1 (.v (.bool true)) x y k r s=nx k (bw x) r s:=rr
@[simp] theorem a1F {k:TV->RA X}:P1 (.v (.bool false)) x y k r s=nx k (bw y) r s:=rr
variable {l s:ae} {k:TV->RA X}
@[simp ↓] theorem a36:l1 x k l s=nI (fk false 1 l s x) k l s:=rr
@[simp ↓] theorem a34:lg a x k l s=nI (fk true a l s x) k l s:=rr
@[simp ↓] theorem a2Y {g:Bool}:lt g a x k l s=FA (gW g a X.fl l s x) k:=rr
@[simp ↓] theorem a2y:st a x y k l s=Tg (cI a X.fl y l s x) k:=rr
@[simp ↓] theorem a3i:fz x k l s=FA (et l s x) k:=rr
@[simp ↓] theorem a2O:nk x k l s=nI (A6 x) k l s:=rr
@[simp ↓] theorem WX {a:BinOp}:bo a t x y k l s=nI (cm X.P a t x y) k l s:=rr
@[simp ↓] theorem a2v {a:UnOp}:uo a x k l s=nI (G8 X.P a x) k l s:=rr
@[simp ↓] theorem a3p {d:aP}:cv t d x k l s=nI (bJ X.P t d x l s) k l s:=rr
@[simp ↓] theorem a3F {z:ao}:al z a k l s=nx k (.p false l.length 0) (l++[.row z a]) s:=rr
@[simp ↓] theorem a1p {z:ao}:als z a k l s=nx k (.p true s.length 0) l (s++[.row z a]):=rr
@[simp ↓] theorem a3s:bx a x k l s=Ma (aW x&&pR a (ce x)) (nx k (.p false l.length 0) (l++[.row (ce x) a]) s):=rr
@[simp ↓] theorem a1i:bx0 a x k l s=Ma (aW x&&pR a (ce x)) (nx k (.p false l.length 0) (l++[.row ((ce x).map dX) a]) s):=rr
@[simp ↓] theorem a1h:ER a x k l s=Ma (aW x&&pR a (ce x)) (nx k (.p true s.length 0) l (s++[.row ((ce x).map jz) a])):=rr
@[simp ↓] theorem a3t {z:ao} {pl:List (Nat×Nat)} {ps:List (Nat×TV)}:bu z pl ps k l s=nI ((iJ pl z ps).map .ag) k l s:=by unfold bu nI;cases iJ pl z ps <;> rfl
@[simp ↓] theorem a3u {z:ao} {ps:List (Nat×TV)}:bs a b z ps k l s=FA (WB a b z ps l s) k:=rr
@[simp ↓] theorem a2S {z:ao}:ms a b c z x y k l s=FA (E9 a b c z x y l s) k:=rr
@[simp ↓] theorem WV {b a c:eh}:sl t x b a c k l s=nI (aK X.P t b a c l s x) k l s:=rr
@[simp ↓] theorem a2L:pa a x k l s=nI (Nj a x) k l s:=rr
@[simp ↓] theorem a3j {g:Bool}:fd a g b x k l s=nI (Nn a g b x) k l s:=rr
@[simp ↓] theorem a3c:ia a x y k l s=nI (uT a x y) k l s:=rr
@[simp ↓] theorem a1e:Em a b x y k l s=nI (Ac a b x y) k l s:=rr
@[simp ↓] theorem a38:ix t x y k l s=nI (mn X.P t x y) k l s:=rr
@[simp ↓] theorem a33 {a:Bool}:lk t a x y k l s=nI (Ft X.P t a x y l s) k l s:=rr
@[simp ↓] theorem a2Q:mu t x y z k l s=Tg (KM X.P t X.fl x y z l s) k:=rr
@[simp ↓] theorem a3l:ex a x k l s=nI (text a x) k l s:=rr
@[simp ↓] theorem a1f:exw a x k l s=nI ((text a x).map dz) k l s:=by unfold exw ex nI;cases text a x <;> rfl
@[simp ↓] theorem a3E {d:Bool}:ap d a b c x y k l s=FA (cq d a b c X.fl x y l s) k:=rr
@[simp ↓] theorem WW:cp a x y k l s=FA (lC a X.fl x y l s) k:=rr
@[simp ↓] theorem a32:ln t x k l s=nI (eO X.P t x l s) k l s:=rr
@[simp ↓] theorem a3A {b:Builtin} {c:Array aP} {a:Array Bool} {d:ao}:bi b c t a d k l s=nI (CF X.P b c t a d) k l s:=rr
@[simp ↓] theorem a2J:pk x y z k l s=P1 x y z k l s:=rr
@[simp ↓] theorem a2P:mv x k l s=nx k x l s:=rr
@[simp ↓] theorem a2D {a:List (wZ)} {r:RA X}:rc a r l s=Ma (Nx a l s) (r l s):=rr
@[simp ↓] theorem a2I:pl a x k l s=pa a x (λy=>l1 y k) l s:=rr
@[simp ↓] theorem a3b:il a x y k l s=ia a x y (λb=>l1 b k) l s:=rr
@[simp ↓] theorem a2N:nl a x k l s=nk x (λy=>pl a y k) l s:=rr
@[simp ↓] theorem a2M:np a x k l s=nk x (λy=>pa a y k) l s:=rr
@[simp ↓] theorem a3a:ip a b x y k l s=ia a x y (λc=>pa b c k) l s:=rr
@[simp ↓] theorem a2H:pp a b x k l s=pa a x (λy=>pa b y k) l s:=rr
@[simp ↓] theorem a2G:pq a b x k l s=pa a x (λy=>pl b y k) l s:=rr
@[simp ↓] theorem a2F:ps a x b y k l s=pa a x (λc=>st b c y k) l s:=rr
@[simp ↓] theorem a2Z:lr (X:=X) a x l s=lt true a x (λv=>rt v) l s:=rr
@[simp ↓] theorem a3k {k:TV->TV->RA X}:ey x k l s=ex 0 x (λa=>ex 1 (ct 0 x) λb=>k a b) l s:=rr
@[simp ↓] theorem a3D:be t x y k l s=bo .eql t x y k l s:=rr
@[simp ↓] theorem a1o {f g:RA X}:aE t x y f g l s=bo .eql t x y (λc=>br c f g) l s:=rr
@[simp ↓] theorem a3w:bn t x y k l s=bo .neq t x y k l s:=rr
@[simp ↓] theorem a1j {f g:RA X}:kE t x y f g l s=bo .neq t x y (λc=>br c f g) l s:=rr
@[simp ↓] theorem a3y:bl t x y k l s=bo .lss t x y k l s:=rr
@[simp ↓] theorem a1l {f g:RA X}:cT t x y f g l s=bo .lss t x y (λc=>br c f g) l s:=rr
@[simp ↓] theorem a3C:bg t x y k l s=bo .gtr t x y k l s:=rr
@[simp ↓] theorem a1n {f g:RA X}:HO t x y f g l s=bo .gtr t x y (λc=>br c f g) l s:=rr
@[simp ↓] theorem a3x:bm t x y k l s=bo .leq t x y k l s:=rr
@[simp ↓] theorem a1k {f g:RA X}:WD t x y f g l s=bo .leq t x y (λc=>br c f g) l s:=rr
@[simp ↓] theorem a3B:bh t x y k l s=bo .geq t x y k l s:=rr
@[simp ↓] theorem a1m {f g:RA X}:Tf t x y f g l s=bo .geq t x y (λc=>br c f g) l s:=rr
@[simp ↓] theorem WY:ba t x y k l s=bo .add t x y k l s:=rr
@[simp ↓] theorem a3z:bj t x y k l s=bo .sub t x y k l s:=rr
@[simp ↓] theorem a3r {b:ao} {k:TV->TV->RA X}:ck a b k l s=af a b (λv=>ey v k) l s:=rr
@[simp ↓] theorem a3f {f:(TV->RA X)->RA X}:gj x f k l s=gt x f (λv=>pk x v Bf k) l s:=rr
@[simp ↓] theorem a3e {f:(TV->RA X)->RA X}:gk x f k l s=gf x f (λv=>pk x Bt v k) l s:=rr
@[simp ↓] theorem a2K {f g:RA X}:pb x y z f g l s=pk x y z (λc=>br c f g) l s:=rr
@[simp ↓] theorem a39:iq a b x y k l s=ia a x y (λc=>pl b c k) l s:=rr
@[simp ↓] theorem a3n {c:ao}:cz a c b x k l s=af a c (λv=>st b x v k) l s:=rr
@[simp ↓] theorem a2V:lz a y b x k l s=lg a y (λv=>st b x v k) l s:=rr
@[simp ↓] theorem a35:lc a x b k l s=lg a x (λv=>af b [v] k) l s:=rr
@[simp ↓] theorem a2z {a:ao}:rv (X:=X) a l s=rt (.tu a) l s:=rr
@[simp ↓] theorem a2W:ly a x k l s=lt true a x k l s:=rr
@[simp ↓] theorem a2w {k:RA X}:sx a x y k l s=st a x y (λ_=>k) l s:=rr
@[simp ↓] theorem a2E {k:RA X}:px a x b y k l s=ps a x b y (λ_=>k) l s:=rr
@[simp ↓] theorem a3o {c:ao} {k:RA X}:cx a c b x k l s=cz a c b x (λ_=>k) l s:=rr
@[simp ↓] theorem a2X {k:RA X}:lx a y b x k l s=lz a y b x (λ_=>k) l s:=rr
@[simp ↓] theorem a3d {f:(TV->RA X)->RA X}:gt x f k l s=gg x true f k l s:=rr
@[simp ↓] theorem a3h {f:(TV->RA X)->RA X}:gf x f k l s=gg x false f k l s:=rr
@[simp ↓] theorem a2R:mt x y k l s=gg x true (mv y) k l s:=rr
@[simp ↓] theorem a2U:mf x y k l s=gg x false (mv y) k l s:=rr
@[simp ↓] theorem a2C {b:ae}:rm a x y r b=rl true true true none true a x y r b:=rr
@[simp ↓] theorem a2B {a:ae}:rn x y r a=rl true true true none false 1 x y r a:=rr
@[simp ↓] theorem a2x {f:ae->ae->RA X}:sv f l s=f l s l s:=rr
@[simp ↓] theorem dG {A:Type} {j:A} {f:A->RA X}:jn j f l s=f j l s:=rr
end
def ST (c:Bool) (p q:Prop):Prop:=bif c then p else q
@[congr] theorem a47 {c a:Bool} {p q:Prop} (h:mk c=a):ST c p q=ST a p q:=by subst h;rfl
@[simp] theorem a43 {p q:Prop}:ST true p q=p:=rr
@[simp] theorem a45 {p q:Prop}:ST false p q=q:=rr
@[simp] theorem a44 {c:Bool} {p q:Prop}:ST (!c) p q=ST c q p:=by cases c <;> rfl
theorem ST.mk {c:Bool} {p q:Prop} (a:c->p) (b:c=false->q):ST c p q:=by cases c;exact b rfl;exact a rfl
theorem ST.dc {c:Prop} {_:Decidable c} {p q:Prop} (a:c->p) (b:¬c->q):ST (decide c) p q:=ST.mk (λh=>a (yB h)) λh=>b (of_decide_eq_false h)
def WC (c:TV) (p q:Prop):Prop:=match c with
 | .v (.bool t)=>bif t then p else q
 | _=>False
@[congr] theorem a2h {p q:Prop} (h:mk x=y):WC x p q=WC y p q:=by subst h;rfl
@[simp] theorem a2i {c:Bool} {p q:Prop}:WC (.v (.bool c)) p q=ST c p q:=rr
def NA (w:TV) (b:Bool) (p q:Prop):Prop:=match w with
 | .v (.bool c)=>bif c==b then p else q
 | .tu []=>q
 | _=>False
@[congr] theorem a1O {b:Bool} {p q:Prop} (h:mk x=y):NA x b p q=NA y b p q:=by subst h;rfl
@[simp] theorem a1M {c:Bool} {p q:Prop}:NA (.v (.bool c)) true p q=ST c p q:=by cases c <;> exact rr
@[simp] theorem a1N {c:Bool} {p q:Prop}:NA (.v (.bool c)) false p q=ST c q p:=by cases c <;> exact rr
@[simp] theorem a1L {b:Bool} {p q:Prop}:NA (.tu []) b p q=q:=rr
section
variable {P:aB} {fl:Nat} {r:jw} {l s:ae}
def CL (P:aB) (K:Nat) (a:ao) (fl:Nat) (k:dL) (l s:ae):Prop:=bO a=true/\Ends P AA Pl dp K a s fl λv s=>k v l s
@[congr] theorem a4j {b c:ao} {k:dL} (h:mk b=c):CL P a b fl k l s=CL P a c fl k l s:=by subst h;rfl
def PR (p:Prop):Prop:=p
@[simp] theorem a4h (p:Prop):PR p=p:=rr
theorem CL.of {b:ao} {k:dL} {Q:jw} (h:EN P a b s fl Q) (e:bO b) (d:∀v c,Q v c->PR (k v l c)):CL P a b fl k l s:=⟨e,Ends.mono h d⟩
theorem CL.o {b:ao} {k:dL} {Q:jw} (h:EN P a b s fl Q) (d:∀v c,Q v c->PR (k v l c)) (e:bO b:=by rfl):CL P a b fl k l s:=.of h e d
theorem CL.eq {b:ao} {k:dL} {e:ae} (h:EN P a b s fl λr t=>r=x/\t=e) (j:bO b):CL P a b fl k l s=k x l e:=by obtain ⟨n,_,_,d,rfl,rfl⟩:=h;refine propext ⟨λh=>?_,λh=>⟨j,n,_,_,d,h⟩⟩;obtain ⟨_,m,o,p,g,i⟩:=h;have f:=jG (xT n m) _ _ _ _ _ d;have c:=jG (wA m n) _ _ _ _ _ g;rw [f] at c;cases c;exact i
theorem CL.q {K:Nat} {a:ao} {k:dL} {v:TV} {b:ae} (h:EN P K a s fl λr t=>r=v/\t=b) (c:bO a:=by rfl):CL P K a fl k l s=k v l b:=CL.eq h c
@[simp ↓] theorem a1g {b:ao} {k:TV->RA (Xc P fl r)}:af (X:=Xc P fl r) a b k l s=CL P a (b.map dz) fl k l s:=by show (bif bO (b.map dz) then _ else False)=_;cases h:bO (b.map dz) <;> simp only [CL,h,cond_true,cond_false,true_and,false_and,xA] <;> rfl
@[simp ↓] theorem a3q {b:ao} {k:TV->RA (Xc P fl r)}:cl (X:=Xc P fl r) a b k l s=CL P a b fl k l s:=by show (bif bO b then _ else False)=_;cases h:bO b <;> simp only [CL,h,cond_true,cond_false,true_and,false_and,xA] <;> rfl
@[simp ↓] theorem a2A:rt (X:=Xc P fl r) x l s=r x s:=rr
@[simp ↓] theorem a3v {f g:RA (Xc P fl r)}:br (X:=Xc P fl r) x f g l s=WC x (f l s) (g l s):=rr
@[simp ↓] theorem a3g {b:Bool} {f:(TV->RA (Xc P fl r))->RA (Xc P fl r)} {k:TV->RA (Xc P fl r)}:gg (X:=Xc P fl r) x b f k l s=NA x b (f k l s) (k (.tu []) l s):=rr
def LP (P:aB) (fl:Nat) (r:jw) (a:aA) (b:LB (Xc P fl r)->LB (Xc P fl r)) (c:ao) (l s:ae):Prop:=lp (X:=Xc P fl r) a b c l s
@[congr] theorem a4i {a:aA} {b:LB (Xc P fl r)->LB (Xc P fl r)} {c d:ao} (h:mk c=d):LP P fl r a b c l s=LP P fl r a b d l s:=by subst h;rfl
@[simp ↓] theorem a30 {a:aA} {b:LB (Xc P fl r)->LB (Xc P fl r)} {c:ao}:lp (X:=Xc P fl r) a b c l s=LP P fl r a b c l s:=rr
theorem LP.ind {i:Type} (l:i->Nat) (I:i->Prop) (c:i->ao) (a g:i->ae) {lv:aA} {b:LB (Xc P fl r)->LB (Xc P fl r)} (m:Nat)
  (n:∀y,I y->(a y).length=m/\lv.map (eg lv (c y))=c y/\Ji m (c y))
  (h:∀x,I x->∀k:ao->ae->ae->Prop,(∀y d e f,d=c y->e.take m=a y->f=g y->I y->l y<l x->k d e f)->b k (c x) (a x) (g x))
  (x:i) (j:I x):LP P fl r lv b (c x) (a x) (g x):=by
 have z:∀N x,I x->l x<N->KW False (λk d e f=>b (kc (Xc P fl r) (a x).length k) (lv.map (eg lv d)) e f) N (c x) (a x) (g x):=by
  intro N;induction N with
  | zero=>intro x _ h;exact absurd h (Nat.not_lt_zero _)
  | succ N w=>
   intro x j A;obtain ⟨p,q,_⟩:=n x j;show b _ (lv.map (eg lv (c x))) (a x) (g x);rw [q];refine h x j _ λy d e f s t v o C=>?_;obtain ⟨e3,_,e4⟩:=n y o;change (bif Ji (a x).length d then (KW False _ N d (e.take (a x).length) f:Prop) else False)
   rw [s,p,e4,t,v];have:=w y o O;rw [e3] at this;exact this
 exact ⟨l x+1,z _ x j (yF _)⟩
end
def RO (o:eh) (s:ae) (k:jw):Prop:=∃v,o=some v/\k v s
@[congr] theorem a4f {o a:eh} {k:jw} (h:mk o=a):RO o r k=RO a r k:=by subst h;rfl
@[simp] theorem a4e {k:jw}:RO (some x) r k=k x r:=propext ⟨λ⟨_,a,b⟩=>by cases a;exact b,λh=>⟨_,rfl,h⟩⟩
def RT (a:Bool) (s:ae) (k:jw) (v:TV) (b:ae):Prop:=RO ((jF s.length b v).map (pQ a)) s k
@[simp] theorem a4a {a:Bool} {k:jw}:RT a r k x s=RO ((jF r.length s x).map (pQ a)) r k:=rr
theorem EN.of' {f:Func} {i:(X:CX)->ao->RA X} {d:ao} {k:jw} (e:BE a f b i) (n:AA.rw a=false) (m:d.length=b) (h:i (Xc prog r.length (RT (AA.aM a) r k)) d [] r):EN prog a d r c k:=by
 have o:=e.ok;simp only [okF,zN] at o;obtain ⟨⟨x,y⟩,z⟩:=o;obtain ⟨p,j⟩:=xM.1 y;have t:cF f=p:=by unfold cF;rw [j];rfl
 refine Ends.of x e.hf j (by rw [m];exact yN z) ?_;have l:=e.eq (XP prog AA Pl dp (bif AA.rw a then c else r.length) (Rt AA a r k)) d r m;rw [t] at l;apply cast l.symm;rw [n];have q:Rt AA a r k=RT (AA.aM a) r k:=by
  funext v A;unfold Rt RT RO jq;rw [n];simp only [cond_false];cases jF r.length A v with
  | none=>simp
  | some w=>simp only [zM,xK,Prod.mk.injEq];exact propext ⟨λ⟨_,_,⟨g,s⟩,h⟩=>⟨_,rfl,by rw [g,s];exact h⟩,λ⟨_,g,h⟩=>⟨_,_,⟨g,rfl⟩,h⟩⟩
 rw [q];exact h
theorem EN.of {f:Func} {g:(X:CX)->ao->RA X} {d:ao} {fl:Nat} {k:jw} (e:BE a f b g) (c:(AA.rw a||AA.aM a)=false) (i:d.length=b) (h:g (Xc prog r.length (RT false r k)) d [] r):EN prog a d r fl k:=by rw [Bool.or_eq_false_iff] at c;apply EN.of' e c.1 i;rw [c.2];exact h
theorem EN.o {f:Func} {g:(X:CX)->ao->RA X} {d:ao} {k:jw} (e:BE a f b g) (h:g (Xc prog r.length (RT false r k)) d [] r) (j:(AA.rw a||AA.aM a)=false:=by kernel_rfl) (i:d.length=b:=by rfl):EN prog a d r c k:=.of e j i h
theorem EN.mono {P:aB} {f:ao} {k c:jw} (h:EN P a f r b k) (g:∀d e,k d e->c d e):EN P a f r b c:=Ends.mono h g
def EP (P:aB) (K:Nat) (c:ao) (Q:TV->Prop):Prop:=∀s a,EN P K c s a λr b=>Q r/\s=b
def RQ (o:eh) (Q:TV->Prop):Prop:=∃v,o=some v/\Q (bw v)
@[congr] theorem a4c {o a:eh} {Q:TV->Prop} (h:mk o=a):RQ o Q=RQ a Q:=by subst h;rfl
@[simp] theorem a4b {Q:TV->Prop}:RQ (some x) Q=Q (bw x):=propext ⟨λ⟨_,a,b⟩=>by cases a;exact b,λh=>⟨_,rfl,h⟩⟩
def RP (Q:TV->Prop) (s:ae) (v:TV) (a:ae):Prop:=RQ (jF s.length a v) Q
@[simp] theorem a4d {Q:TV->Prop}:RP Q r x s=RQ (jF r.length s x) Q:=rr
abbrev PX (P:aB) (s:ae) (Q:TV->Prop):CX:=Xc P s.length (RP Q s)
theorem EP.of {f:Func} {i:(X:CX)->ao->RA X} {d:ao} {Q:TV->Prop} (e:BE a f b i) (l:(AA.rw a||AA.aM a)=false) (k:d.length=b) (h:∀(s:ae) (g:TV->Prop),(∀v,Q v->g v)->i (PX prog s g) d [] s):EP prog a d Q:=by
 intro s fl;apply EN.of e l k;have j:RT false s (λr m=>Q r/\s=m)=RP Q s:=by
  funext v n;unfold RT RP RO RQ;cases jF s.length n v with
  | none=>simp
  | some w=>exact propext ⟨λ⟨_,c,h,_⟩=>⟨_,rfl,by cases c;exact h⟩,λ⟨_,c,h⟩=>⟨_,rfl,by cases c;exact h,rfl⟩⟩
 rw [j];exact h s Q λ_ h=>h
theorem EP.o {f:Func} {g:(X:CX)->ao->RA X} {c:ao} {Q:TV->Prop} (e:BE a f b g) (h:∀(s:ae) (d:TV->Prop),(∀v,Q v->d v)->g (PX prog s d) c [] s) (j:(AA.rw a||AA.aM a)=false:=by kernel_rfl) (i:c.length=b:=by rfl):EP prog a c Q:=EP.of e j i h
section
variable {P:aB} {K:Nat} {J:ao} {Q:TV->Prop} {fl:Nat} {k:dL} {l s:ae}
theorem CP.of (h:EP P K J Q) (c:bO J) (b:∀v,Q v->PR (k v l s)):CL P K J fl k l s:=CL.of (h s fl) c λ_ _ d=>by obtain ⟨a,rfl⟩:=d;exact b _ a
theorem CP.o (h:EP P K J Q) (a:∀v,Q v->PR (k v l s)) (b:bO J:=by rfl):CL P K J fl k l s:=CP.of h b a
theorem CP.eq (h:EP P K J (· =x)) (b:bO J):CL P K J fl k l s=k x l s:=CL.eq (EN.mono (h s fl) λ_ _ a=>⟨a.1,a.2.symm⟩) b
theorem CP.q {v:TV} (h:EP P K J (· =v)) (a:bO J:=by rfl):CL P K J fl k l s=k v l s:=CP.eq h a
theorem EP.mono {a:TV->Prop} (h:EP P K J Q) (b:∀v,Q v->a v):EP P K J a:=λs fl=>EN.mono (h s fl) λ_ _ h=>⟨b _ h.1,h.2⟩
end
def NJ (o:eh) (Q:TV->Prop):Prop:=∃v,o=some v/\Q v
@[congr] theorem a2t {o a:eh} {Q:TV->Prop} (h:mk o=a):NJ o Q=NJ a Q:=by subst h;rfl
@[simp] theorem a2s {Q:TV->Prop}:NJ (some x) Q=Q x:=propext ⟨λ⟨_,a,b⟩=>by cases a;exact b,λh=>⟨_,rfl,h⟩⟩
def RK (Q:TV->Prop) (s:ae) (v:TV) (a:ae):Prop:=NJ (jF s.length a v) Q
@[simp] theorem a4g {Q:TV->Prop}:RK Q r x s=NJ (jF r.length s x) Q:=rr
abbrev KX (P:aB) (s:ae) (Q:TV->Prop):CX:=Xc P s.length (RK Q s)
theorem EK.of {f:Func} {j:(X:CX)->ao->RA X} {g:ao} {Q:TV->Prop} (e:BE a f b j) (d:(!AA.rw a&&AA.aM a)) (l:g.length=b) (h:∀(s:ae) (i:TV->Prop),(∀v,Q v->i v)->j (KX prog s i) g [] s):EP prog a g Q:=by
 intro s fl;rw [zN,xG] at d;apply EN.of' e d.1 l;have k:RT (AA.aM a) s (λr m=>Q r/\s=m)=RK Q s:=by
  funext v n;unfold RT RK RO NJ;rw [d.2];cases jF s.length n v with
  | none=>simp
  | some w=>exact propext ⟨λ⟨_,c,h,_⟩=>⟨_,rfl,by cases c;exact h⟩,λ⟨_,c,h⟩=>⟨_,rfl,by cases c;exact h,rfl⟩⟩
 rw [k];exact h s Q λ_ h=>h
theorem EK.o {f:Func} {g:(X:CX)->ao->RA X} {c:ao} {Q:TV->Prop} (e:BE a f b g) (h:∀(s:ae) (d:TV->Prop),(∀v,Q v->d v)->g (KX prog s d) c [] s) (j:(!AA.rw a&&AA.aM a):=by kernel_rfl) (i:c.length=b:=by rfl):EP prog a c Q:=EK.of e j i h
end T
namespace T
open Go V Q
variable {a b c d e f g:Nat} {u v w:Value} {i j k:Int} {t:TypeId} {p:List Value} {q:Bool} {n:IntKind} {x y z:TV} {r s:List TO} {o:List TV}
@[simp] theorem a2d (x:aq):dX (.v x)= .v x:=rfl
@[simp] theorem a29 (x:aq):dz (.v x)= .v x:=rfl
@[simp] theorem a0M (x:aq):bw (.v x)= .v x:=rfl
@[simp] theorem a3L (x:aq):ce (.v x)=[.v x]:=rfl
@[simp] theorem YZ (x:aq):cH (.v x):=rfl
@[simp] theorem Z3 (x:aq):kq (.v x):=rfl
@[simp] theorem YB (x:aq):na (.v x):=rfl
@[simp] theorem YV (x:aq):aW (.v x):=by simp [aW,cJ]
@[simp] theorem a1H (x:aq):DQ (.v x)=some (.v x):=rfl
@[simp] theorem a0S (o:Bool) (a:cD):dX (.sl o a)= .sl false a:=rfl
@[simp] theorem a0O (o:Bool) (a:cD):dz (.sl o a)= .sl false a:=rfl
@[simp] theorem a23 (o:Bool) (a:cD):bw (.sl o a)= .sl false a:=rfl
@[simp] theorem a1R (o:Bool) (a:cD):ce (.sl o a)=[.sl o a]:=rfl
@[simp] theorem Wd (o:Bool) (a:cD):cH (.sl o a):=rfl
@[simp] theorem Wg (o:Bool) (a:cD):kq (.sl o a)= !o:=rfl
@[simp] theorem VV (o:Bool) (a:cD):na (.sl o a)= !o:=rfl
@[simp] theorem W0 (o:Bool) (a:cD):aW (.sl o a):=by simp [aW,cJ]
@[simp] theorem Xz (o:Bool) (a:cD):zx (.sl o a):=rfl
@[simp] theorem YR (o:Bool) (a:cD):DQ (.sl o a)=some (.sl o a):=rfl
@[simp] theorem a2f (r:Bool) (a b:Nat):dX (.p r a b)= .p r a b:=rfl
@[simp] theorem a2b (r:Bool) (a b:Nat):dz (.p r a b)= .p r a b:=rfl
@[simp] theorem a3Q (r:Bool) (a b:Nat):bw (.p r a b)= .p r a b:=rfl
@[simp] theorem a3N (r:Bool) (a b:Nat):ce (.p r a b)=[.p r a b]:=rfl
@[simp] theorem Z1 (r:Bool) (a b:Nat):cH (.p r a b)=r:=rfl
@[simp] theorem Z5 (r:Bool) (a b:Nat):kq (.p r a b)=r:=rfl
@[simp] theorem YD (r:Bool) (a b:Nat):na (.p r a b)=false:=rfl
@[simp] theorem YX (r:Bool) (a b:Nat):aW (.p r a b)=r:=by simp [aW,cJ]
@[simp] theorem a1t (r:Bool) (a b:Nat):zx (.p r a b):=rfl
@[simp] theorem a1J (r:Bool) (a b:Nat):DQ (.p r a b)=some (.p r a b):=rfl
@[simp] theorem a2e (r:Bool) (a c i sz b:Nat):dX (.q r a c i sz b)= .q r a c i sz b:=rfl
@[simp] theorem a2a (r:Bool) (a c i sz b:Nat):dz (.q r a c i sz b)= .q r a c i sz b:=rfl
@[simp] theorem a3P (r:Bool) (a c i sz b:Nat):bw (.q r a c i sz b)= .q r a c i sz b:=rfl
@[simp] theorem a3M (r:Bool) (a c i sz b:Nat):ce (.q r a c i sz b)=[.q r a c i sz b]:=rfl
@[simp] theorem Z0 (r:Bool) (a c i sz b:Nat):cH (.q r a c i sz b)=r:=rfl
@[simp] theorem Z4 (r:Bool) (a c i sz b:Nat):kq (.q r a c i sz b)=r:=rfl
@[simp] theorem YC (r:Bool) (a c i sz b:Nat):na (.q r a c i sz b)=false:=rfl
@[simp] theorem YW (r:Bool) (a c i sz b:Nat):aW (.q r a c i sz b)=r:=by simp [aW,cJ]
@[simp] theorem a1s (r:Bool) (a c i sz b:Nat):zx (.q r a c i sz b):=rfl
@[simp] theorem a1I (r:Bool) (a c i sz b:Nat):DQ (.q r a c i sz b)=some (.q r a c i sz b):=rfl
@[simp] theorem a0T (a:ao) (b:Nat):dX (.pe a b)= .pe a b:=rfl
@[simp] theorem a0P (a:ao) (b:Nat):dz (.pe a b)= .pe a b:=rfl
@[simp] theorem a25 (a:ao) (b:Nat):bw (.pe a b)= .pe a b:=rfl
@[simp] theorem a1S (a:ao) (b:Nat):ce (.pe a b)=[.pe a b]:=rfl
@[simp] theorem We (a:ao) (b:Nat):cH (.pe a b):=rfl
@[simp] theorem Wh (a:ao) (b:Nat):kq (.pe a b):=rfl
@[simp] theorem VW (a:ao) (b:Nat):na (.pe a b)=false:=rfl
@[simp] theorem Wa (a:ao) (b:Nat):aW (.pe a b):=by simp [aW,cJ]
@[simp] theorem XA (a:ao) (b:Nat):zx (.pe a b):=rfl
@[simp] theorem YS (a:ao) (b:Nat):DQ (.pe a b)=some (.pe a b):=rfl
@[simp] theorem a2g (r:Bool) (a c b n sz:Nat):dX (.m r a c b n sz)= .m r a c b n sz:=rfl
@[simp] theorem a2c (r:Bool) (a c b n sz:Nat):dz (.m r a c b n sz)= .m r a c b n sz:=rfl
@[simp] theorem a0N (r:Bool) (a c b n sz:Nat):bw (.m r a c b n sz)= .m r a c b n sz:=rfl
@[simp] theorem a3O (r:Bool) (a c b n sz:Nat):ce (.m r a c b n sz)=[.m r a c b n sz]:=rfl
@[simp] theorem Z2 (r:Bool) (a c b n sz:Nat):cH (.m r a c b n sz)=r:=rfl
@[simp] theorem Z6 (r:Bool) (a c b n sz:Nat):kq (.m r a c b n sz)=r:=rfl
@[simp] theorem YE (r:Bool) (a c b n sz:Nat):na (.m r a c b n sz)=false:=rfl
@[simp] theorem YY (r:Bool) (a c b n sz:Nat):aW (.m r a c b n sz)=r:=by simp [aW,cJ]
@[simp] theorem a1u (r:Bool) (a c b n sz:Nat):zx (.m r a c b n sz):=rfl
@[simp] theorem a1K (r:Bool) (a c b n sz:Nat):DQ (.m r a c b n sz)=some (.m r a c b n sz):=rfl
@[simp] theorem a0U (a:Nat):dX (.mp a)= .mp a:=rfl
@[simp] theorem a0Q (a:Nat):dz (.mp a)= .mp a:=rfl
@[simp] theorem a26 (a:Nat):bw (.mp a)= .mp a:=rfl
@[simp] theorem a1T (a:Nat):ce (.mp a)=[.mp a]:=rfl
@[simp] theorem Wf (a:Nat):cH (.mp a):=rfl
@[simp] theorem Wi (a:Nat):kq (.mp a):=rfl
@[simp] theorem VX (a:Nat):na (.mp a)=false:=rfl
@[simp] theorem Wb (a:Nat):aW (.mp a):=by simp [aW,cJ]
@[simp] theorem XB (a:Nat):zx (.mp a):=rfl
@[simp] theorem YT (a:Nat):DQ (.mp a)=some (.mp a):=rfl
@[simp] theorem a1V (x:aq):jz (.v x)= .v x:=rfl
@[simp] theorem a1W (r:Bool) (a b:Nat):jz (.p r a b)= .p r a b:=rfl
@[simp] theorem a1Y (r:Bool) (a c b n sz:Nat):jz (.m r a c b n sz)= .m r a c b n sz:=rfl
@[simp] theorem a0L (a:Nat):jz (.mp a)= .mp a:=rfl
@[simp] theorem a1X (o:Bool):jz (.sl o [])= .sl o []:=rfl
@[simp] theorem a1Z (o:Bool) (e:ao) (a:cD):jz (.sl o (e::a))= .sl false (e::a):=rfl
@[simp] theorem WA (o:Bool) (a:cD):dX (jz (.sl o a))= .sl false a:=by cases a <;> rfl
@[simp] theorem a0R (a:ao):dz (.ag a)= .ag (a.map dX):=rfl
@[simp] theorem a27 (a:ao):bw (.ag a)= .ag (a.map dX):=rfl
@[simp] theorem a22 (a:ao):bw (.tu a)= .tu (a.map dz):=rfl
@[simp] theorem a1U (a:ao):ce (.ag a)=a:=rfl
@[simp] theorem Wc (a:ao):aW (.ag a)=cJ a:=rfl
@[simp] theorem YU (a:ao):DQ (.ag a)=some (.ag a):=rfl
@[simp] theorem a1v (k:IntKind) (n:Int):zx (.v (.int k n)):=rfl
@[simp] theorem a1w (n:Bool):zx (.v (.bool n)):=rfl
@[simp] theorem a1r (n:aU):zx (.v (.string n)):=rfl
@[simp] theorem XD (a:ao):zx (.ag a)=zw a:=rfl
@[simp] theorem XF (k:IntKind) (n:Int):r8 (.v (.int k n)):=rfl
@[simp] theorem XH (n:Bool):r8 (.v (.bool n)):=rfl
@[simp] theorem XE (n:aU):r8 (.v (.string n)):=rfl
@[simp] theorem Vg (o:Bool) (a:cD):r8 (.sl o a):=rfl
attribute [simp] cJ bO pK mX zw eP ob put wr mC cR Ex isRow Ji rb dN
@[simp] theorem Ww (i:Nat) (a:ao):ct i (.tu a)= .tu (a.set i ((a[i]?).elim .u dz)):=rfl
@[simp] theorem a0l {b:Type} {c:Prop} [Decidable c] {a:b} (h:c):(if c then some a else none)=some a:=zP h
def Yx (g:Bool) (n b:Nat):Option TO->eh
 | some (.row a _)=>(part g n a b).map bw
 | _=>none
@[simp] theorem VT (g:Bool) (n b:Nat) (a:ao) (sz:Nat):Yx g n b (some (.row a sz))=(part g n a b).map bw:=rfl
@[simp] theorem Vp (g:Bool) (n:Nat) (l s:ae) (a b:Nat):fk g n l s (.p false a b)=Yx g n b (fp l a):=by simp only [fk,ob,cond_false,dS];rcases fp l a with _|o;rfl;cases o <;> rfl
@[simp] theorem Vo (g:Bool) (n:Nat) (l s:ae) (a b:Nat):fk g n l s (.p true a b)=Yx g n b s[a]? :=by simp only [fk,ob,cond_true];rcases s[a]? with _|o;rfl;cases o <;> rfl
@[simp] theorem Ol (g:Bool) (n:Nat) (l s:ae) (a:ao) (b:Nat):fk g n l s (.pe a b)=part g n a b:=rfl
@[simp] theorem YH (n b:Nat) (a:ao):part false n a b=fp a b:=dS a b
@[simp] theorem YG (n b:Nat) (a:ao):part true n a b=if b+n<=a.length then some (.ag ((a.drop b).take n)) else none:=rfl
def tkl (g:Bool) (n b c:Nat) (l s:ae):Option TO->Option (TV×ae×ae)
 | some (.row a sz)=>(part g n a b).map λx=>(x,l.set c (.row (eP a b ((ce x).map dX)) sz),s)
 | _=>none
@[simp] theorem Vu (g:Bool) (n b c:Nat) (l s:ae) (a:ao) (sz:Nat):tkl g n b c l s (some (.row a sz))=(part g n a b).map λx=>(x,l.set c (.row (eP a b ((ce x).map dX)) sz),s):=rfl
@[simp] theorem Vj (g:Bool) (n c:Nat) (l s:ae) (a b:Nat):gW g n c l s (.p false a b)=tkl g n b a l s (fp l a):=by simp only [gW,ob,cond_false,dS,wr,put];rcases fp l a with _|o;rfl;cases o <;> rfl
def Yo (n a c:Nat) (x:TV) (l s:ae):Option TO->Option (ae×ae)
 | some (.row b sz)=>if (ce x).length=n/\a+n<=b.length/\aW x/\As sz a n=true then some (l.set c (.row (eP b a (ce x)) sz),s) else none
 | _=>none
@[simp] theorem VO (n a c:Nat) (x:TV) (l s:ae) (b:ao) (sz:Nat):Yo n a c x l s (some (.row b sz))=if (ce x).length=n/\a+n<=b.length/\aW x/\As sz a n=true then some (l.set c (.row (eP b a (ce x)) sz),s) else none:=rfl
@[simp] theorem Od (n c:Nat) (x:TV) (l s:ae) (a b:Nat):cI n c x l s (.p false a b)=Yo n b a x l s (fp l a):=by simp only [cI,ob,cond_false,dS,wr,put];rcases fp l a with _|o;rfl;cases o <;> simp [Yo]
attribute [simp] A6 Nj text Nn Ac List.set_cons_zero List.set_cons_succ
@[simp] theorem VF (i:Nat) (a:ao):text i (.tu a)=(fp a i).bind DQ:=by rw [text,dS]
@[simp] theorem Vv (e:Nat) (o:Bool) (a:cD) (k:IntKind) (m:Int):uT e (.sl o a) (.v (.int k m))=if 0<=m then (a[m.toNat]?).bind λc=>if c.length=e then some (.pe c 0) else none else none:=rfl
def tfl (pl:List (Nat×Nat)) (a:ao) (x:TV) (ps:List (Nat×TV)):Option (Nat×Nat)->Option (ao)
 | some (b,n)=>if (ce x).length=n/\b+n<=a.length/\aW x=true then iJ pl (eP a b ((ce x).map jz)) ps else none
 | none=>none
@[simp] theorem a1x (pl:List (Nat×Nat)) (a:ao) (x:TV) (ps:List (Nat×TV)) (b n:Nat):tfl pl a x ps (some (b,n))=if (ce x).length=n/\b+n<=a.length/\aW x=true then iJ pl (eP a b ((ce x).map jz)) ps else none:=rfl
@[simp] theorem VD (pl:List (Nat×Nat)) (a:ao):iJ pl a []=some a:=rfl
@[simp] theorem VE (pl:List (Nat×Nat)) (c:ao) (i:Nat) (x:TV) (ps:List (Nat×TV)):iJ pl c ((i,x)::ps)=tfl pl c x ps (fp pl i):=by simp only [iJ,<-dS];rcases pl[i]? with _|⟨a,b⟩ <;> rfl
@[simp] theorem Ow (e:Nat) (a:cD):iY e a []=some a:=rfl
@[simp] theorem Ox (e:Nat) (a:cD) (i:Nat) (x:TV) (ps:List (Nat×TV)):iY e a ((i,x)::ps)=if (ce x).length=e/\i<a.length then iY e (a.set i ((ce x).map dX)) ps else none:=rfl
attribute [simp] WB db
@[simp] theorem a3J (n m:Nat):Nat.beq n m=decide (n=m):=by by_cases h:n=m;subst h;simp;rw [decide_eq_false h];exact Bool.eq_false_iff.2 λe=>h (zU e)
@[simp] theorem Y8 (e:Nat) (r:Bool) (a c b n sz:Nat) (k:IntKind) (m:Int):uT e (.m r a c b n sz) (.v (.int k m))=if 0<=m/\m<n/\sz=e then some (.q r a c (b+m.toNat) sz 0) else none:=rfl
def VN (n b d i sz c:Nat) (x:TV) (l s:ae):Option TO->Option (ae×ae)
 | some (.aY k z a)=>if k=d/\z=sz/\z<1000000 then match a[i]? with
   | some e=>if (ce x).length=n/\b+n<=e.length/\mX ((ce x).map dX)=true then some (l.set c (.aY k z (a.set i (eP e b ((ce x).map dX)))),s) else none
   | none=>none
  else none
 | _=>none
@[simp] theorem VL (n b d i sz c:Nat) (x:TV) (l s:ae) (k z:Nat) (a:cD):VN n b d i sz c x l s (some (.aY k z a))=if k=d/\z=sz/\z<1000000 then match a[i]? with
   | some e=>if (ce x).length=n/\b+n<=e.length/\mX ((ce x).map dX)=true then some (l.set c (.aY k z (a.set i (eP e b ((ce x).map dX)))),s) else none
   | none=>none
  else none:=rfl
@[simp] theorem Oc (n d:Nat) (x:TV) (l s:ae) (a c i sz b:Nat):cI n d x l s (.q false a c i sz b)=VN n b c i sz a x l s (fp l a):=by simp only [cI,ob,cond_false,wr,put];rw [dS l a];rcases fp l a with _|o;rfl;cases o <;> first|(simp [VN];done)|(simp [VN];rfl)
def ldq (g:Bool) (n b c i sz:Nat):Option TO->eh
 | some (.aY k z a)=>if k=c/\z=sz then (a[i]?).bind λe=>part g n e b else none
 | _=>none
@[simp] theorem Wm (g:Bool) (n b c i sz k z:Nat) (a:cD):ldq g n b c i sz (some (.aY k z a))=if k=c/\z=sz then (a[i]?).bind λe=>part g n e b else none:=rfl
@[simp] theorem Ok (g:Bool) (n:Nat) (l s:ae) (a c i sz b:Nat):fk g n l s (.q false a c i sz b)=ldq g n b c i sz (fp l a):=by simp only [fk,ob,cond_false];rw [dS l a];rcases fp l a with _|o;rfl;cases o <;> rfl
@[simp] theorem Oj (g:Bool) (n:Nat) (l s:ae) (a c i sz b:Nat):fk g n l s (.q true a c i sz b)=ldq g n b c i sz s[a]? :=by simp only [fk,ob,cond_true];rcases s[a]? with _|o;rfl;cases o <;> rfl
@[simp] theorem K6 (l s:ae) (o:Bool) (a:cD):et l s (.sl o a)=some (.sl o a,l,s):=rfl
def frq (d c n sz b:Nat) (l s:ae):Option TO->Option (TV×ae×ae)
 | some (.aY k z a)=>if k=d/\z=sz/\c=0/\n=a.length/\a≠[]/\cR 0 sz a=true then some (.sl true a,l.set b .dead,s) else none
 | _=>none
@[simp] theorem Ws (d c n sz b:Nat) (l s:ae) (k z:Nat) (a:cD):frq d c n sz b l s (some (.aY k z a))=if k=d/\z=sz/\c=0/\n=a.length/\a≠[]/\cR 0 sz a=true then some (.sl true a,l.set b .dead,s) else none:=rfl
@[simp] theorem Nl (l s:ae) (a c b n sz:Nat):et l s (.m false a c b n sz)=frq c b n sz a l s (fp l a):=by simp only [et,ob,cond_false,put];rw [dS l a];rcases fp l a with _|o;rfl;cases o <;> simp [frq]
@[simp] theorem fW {r:Bool} {id az off n sz:Nat} {l s:ae} {a:aP} (h:prog.underlying t=some (.slice a)):eO prog t (.m r id az off n sz) l s=some (.v (.int .i64 (n:Nat))):=by unfold eO;rw [h]
section
variable {P:aB} {t:aP} {k:IntKind} {a b:Int}
theorem cy {a:BinOp} (b:bq u) (c:bq v) (h:cZ P a t u v=some w) (d:iF (.v u)=some u:=by rfl):cm P a t (.v u) (.v v)=some (iU w):=by unfold cm;simp only [iF,b,c,Bool.and_self,if_true,h,zM]
@[simp] theorem Kb:cm P .add t (.v (.int k a)) (.v (.int k b))=some (.v (.int k (k.wrap (a+b)))):=cy rfl rfl (My t k a b)
@[simp] theorem Yb:cm P .sub t (.v (.int k a)) (.v (.int k b))=some (.v (.int k (k.wrap (a-b)))):=cy rfl rfl (Mg t k a b)
@[simp] theorem Ye:cm P .mul t (.v (.int k a)) (.v (.int k b))=some (.v (.int k (k.wrap (a*b)))):=cy rfl rfl (Mn t k a b)
@[simp] theorem Yf:cm P .lss t (.v (.int k a)) (.v (.int k b))=some (.v (.bool (decide (a<b)))):=cy rfl rfl (Mo t k a b)
@[simp] theorem Yg:cm P .leq t (.v (.int k a)) (.v (.int k b))=some (.v (.bool (decide (a<=b)))):=cy rfl rfl (Mp t k a b)
@[simp] theorem Yi:cm P .gtr t (.v (.int k a)) (.v (.int k b))=some (.v (.bool (decide (b<a)))):=cy rfl rfl (Mr t k a b)
@[simp] theorem Yj:cm P .geq t (.v (.int k a)) (.v (.int k b))=some (.v (.bool (decide (b<=a)))):=cy rfl rfl (Ms t k a b)
@[simp] theorem Yl:cm P .eql t (.v (.int k a)) (.v (.int k b))=some (.v (.bool (decide (a=b)))):=cy rfl rfl (Mv t k a b)
@[simp] theorem Yd:cm P .neq t (.v (.int k a)) (.v (.int k b))=some (.v (.bool (!decide (a=b)))):=cy rfl rfl (Mm t k a b)
theorem uZ (h:b≠0):cm P .quo t (.v (.int k a)) (.v (.int k b))=some (.v (.int k (k.wrap (a.tdiv b)))):=cy rfl rfl (Mj t k a b h)
theorem rj (h:b≠0):cm P .rem t (.v (.int k a)) (.v (.int k b))=some (.v (.int k (a.tmod b))):=cy rfl rfl (Mi t k a b h)
@[simp] theorem Yk (a b:aU):cm P .eql t (.v (.string a)) (.v (.string b))=some (.v (.bool (decide (a=b)))):=cy rfl rfl (Mt t a b)
@[simp] theorem Yc (a b:aU):cm P .neq t (.v (.string a)) (.v (.string b))=some (.v (.bool (!decide (a=b)))):=cy rfl rfl (Ml t a b)
theorem iZ (a b:aU) (h:a.size+b.size<9223372036854775808):cm P .add t (.v (.string a)) (.v (.string b))=some (.v (.string (a++b))):=cy rfl rfl (Mx t a b h)
theorem Ci {a:UnOp} (h:FB P a u=some v):G8 P a (.v u)=some (iU v):=by unfold G8;simp only [iF,zR,h,zM]
@[simp] theorem XJ (b:Bool):G8 P .not (.v (.bool b))=some (.v (.bool (!b))):=Ci (JX b)
@[simp] theorem XK:G8 P .neg (.v (.int k b))=some (.v (.int k (k.wrap (0-b)))):=Ci (JY k b)
end
@[simp] theorem bX {t:aP} {a:cD} {el:aP} (h:prog.underlying t=some (.slice el)):eO prog t (.sl q a) r s=some (.v (.int .i64 (a.length:Nat))):=by unfold eO;rw [h]
@[simp] theorem Y9 (a:Nat) (s:ae) (x:aq):jF a s (.v x)=some (.v x):=rfl
@[simp] theorem Vy (b:Nat) (s:ae) (o:Bool) (a:cD):jF b s (.sl o a)=some (.sl o a):=rfl
@[simp] theorem Vz (b:Nat) (s:ae) (a:ao):jF b s (.ag a)=(nS b s a).map .ag:=rfl
@[simp] theorem Vx (b:Nat) (s:ae) (a:ao):jF b s (.tu a)=(mo b s a).map .tu:=rfl
@[simp] theorem VC (a:Nat) (s:ae) (x:aq):jE a s (.v x)=some (.v x):=rfl
@[simp] theorem Ov (b:Nat) (s:ae) (o:Bool) (a:cD):jE b s (.sl o a)=some (.sl o a):=rfl
@[simp] theorem VA (a:Nat) (s:ae) (x:aq):kA a s (.v x)=some (.v x):=rfl
@[simp] theorem Ot (b:Nat) (s:ae) (o:Bool) (a:cD):kA b s (.sl o a)=some (.sl o a):=rfl
@[simp] theorem Ou (b:Nat) (s:ae) (a:ao):kA b s (.ag a)=(nS b s a).map .ag:=rfl
attribute [simp] nS mo
@[simp] theorem a0I (x:TV):pQ true x=x:=rfl
@[simp] theorem a0J (x:TV):pQ false x=bw x:=rfl
@[simp] theorem a1C (l s:ae):Nx [] l s:=rfl
@[simp] theorem a1D (c:wZ) (a:List (wZ)) (l s:ae):Nx (c::a) l s=(c l s&&Nx a l s):=rfl
attribute [simp] rl rlk jY VU Yv Q.rw tq FE Io Vf Nh
@[simp ↓] theorem a3Z {X:CX} (f:TV->RA X) (a:TV):a1 f [a]=f a:=Eq.trans (Eq.refl _) (Eq.refl _)
@[simp ↓] theorem a3Y {X:CX} (f:TV->TV->RA X) (a b:TV):a2 f [a,b]=f a b:=Eq.trans (Eq.refl _) (Eq.refl _)
@[simp ↓] theorem a3X {X:CX} (f:TV->TV->TV->RA X) (a b c:TV):a3 f [a,b,c]=f a b c:=Eq.trans (Eq.refl _) (Eq.refl _)
@[simp ↓] theorem a3W {X:CX} (f:TV->TV->TV->TV->RA X) (a b c d:TV):a4 f [a,b,c,d]=f a b c d:=Eq.trans (Eq.refl _) (Eq.refl _)
@[simp ↓] theorem a3V {X:CX} (f:TV->TV->TV->TV->TV->RA X) (a b c d e:TV):a5 f [a,b,c,d,e]=f a b c d e:=Eq.trans (Eq.refl _) (Eq.refl _)
@[simp ↓] theorem a3U {X:CX} (f:TV->TV->TV->TV->TV->TV->RA X) (a b c d e g:TV):a6 f [a,b,c,d,e,g]=f a b c d e g:=Eq.trans (Eq.refl _) (Eq.refl _)
@[simp ↓] theorem a3T {X:CX} (f:TV->TV->TV->TV->TV->TV->TV->RA X) (a b c d e g h:TV):a7 f [a,b,c,d,e,g,h]=f a b c d e g h:=Eq.trans (Eq.refl _) (Eq.refl _)
@[simp ↓] theorem a3S {X:CX} (f:TV->TV->TV->TV->TV->TV->TV->TV->RA X) (a b c d e g h i:TV):a8 f [a,b,c,d,e,g,h,i]=f a b c d e g h i:=Eq.trans (Eq.refl _) (Eq.refl _)
@[simp ↓] theorem a3R {X:CX} (f:TV->TV->TV->TV->TV->TV->TV->TV->TV->RA X) (a b c d e g h i j:TV):a9 f [a,b,c,d,e,g,h,i,j]=f a b c d e g h i j:=Eq.trans (Eq.refl _) (Eq.refl _)
@[simp ↓] theorem a2q {X:CX} (f:TV->TV->TV->TV->TV->TV->TV->TV->TV->TV->RA X) (a b c d e g h i j k:TV):a10 f [a,b,c,d,e,g,h,i,j,k]=f a b c d e g h i j k:=Eq.trans (Eq.refl _) (Eq.refl _)
@[simp ↓] theorem a2p {X:CX} (f:TV->TV->TV->TV->TV->TV->TV->TV->TV->TV->TV->RA X) (a b d e g h i j k l c:TV):JD f [a,b,d,e,g,h,i,j,k,l,c]=f a b d e g h i j k l c:=Eq.trans (Eq.refl _) (Eq.refl _)
@[simp ↓] theorem a41 {X:CX} (f:RA X):a0 f []=f:=Eq.trans (Eq.refl _) (Eq.refl _)
theorem sJ {P:aB} {d:aP} {a:IntKind} (b:(P.underlying t).isSome) (h:isI P d a):bJ P t d (.v (.int n i)) r s=some (.v (.int a (a.wrap i))):=by unfold bJ;simp only [iF,zR];rw [zP (by rfl),T5 b h];rfl
theorem tix {P:aB} {b:aU} (a:P.underlying t=some .string) (h:0<=i/\i<b.size):mn P t (.v (.string b)) (.v (.int n i))=some (.v (.int .u8 ((b.data.toList.getD i.toNat 0).toNat:Nat))):=by unfold mn;simp only [iF,zR,LC t n i b h a,zM];rfl
section
variable {l J:ae} {D:Bool} {E:cD}
theorem K5 {b:aU}:eO prog 9 (.v (.string b)) l J=some (.v (.int .i64 (b.size:Nat))):=by unfold eO;rw [show prog.underlying 9=some .string by kernel_rfl]
@[simp] theorem Y6:eO prog 22 (.sl D E) l J=some (.v (.int .i64 (E.length:Nat))):=bX (el:=2) Y
@[simp] theorem Y5:eO prog 25 (.sl D E) l J=some (.v (.int .i64 (E.length:Nat))):=bX (el:=158) Y
@[simp] theorem Y4:eO prog 27 (.sl D E) l J=some (.v (.int .i64 (E.length:Nat))):=bX (el:=156) Y
@[simp] theorem Y3:eO prog 28 (.sl D E) l J=some (.v (.int .i64 (E.length:Nat))):=bX (el:=217) Y
@[simp] theorem Y2:eO prog 29 (.sl D E) l J=some (.v (.int .i64 (E.length:Nat))):=bX (el:=215) Y
@[simp] theorem Y1:eO prog 30 (.sl D E) l J=some (.v (.int .i64 (E.length:Nat))):=bX (el:=111) Y
@[simp] theorem Y0:eO prog 31 (.sl D E) l J=some (.v (.int .i64 (E.length:Nat))):=bX (el:=3) Y
@[simp] theorem XZ:eO prog 32 (.sl D E) l J=some (.v (.int .i64 (E.length:Nat))):=bX (el:=256) Y
@[simp] theorem XY:eO prog 33 (.sl D E) l J=some (.v (.int .i64 (E.length:Nat))):=bX (el:=310) Y
@[simp] theorem XX:eO prog 48 (.sl D E) l J=some (.v (.int .i64 (E.length:Nat))):=bX (el:=89) Y
@[simp] theorem XW:eO prog 49 (.sl D E) l J=some (.v (.int .i64 (E.length:Nat))):=bX (el:=164) Y
@[simp] theorem XV:eO prog 55 (.sl D E) l J=some (.v (.int .i64 (E.length:Nat))):=bX (el:=86) Y
@[simp] theorem XU:eO prog 66 (.sl D E) l J=some (.v (.int .i64 (E.length:Nat))):=bX (el:=102) Y
@[simp] theorem XT:eO prog 68 (.sl D E) l J=some (.v (.int .i64 (E.length:Nat))):=bX (el:=9) Y
@[simp] theorem XR:eO prog 77 (.sl D E) l J=some (.v (.int .i64 (E.length:Nat))):=bX (el:=5) Y
@[simp] theorem XQ:eO prog 78 (.sl D E) l J=some (.v (.int .i64 (E.length:Nat))):=bX (el:=90) Y
@[simp] theorem XO:eO prog 79 (.sl D E) l J=some (.v (.int .i64 (E.length:Nat))):=bX (el:=96) Y
@[simp] theorem Vt:eO prog 127 (.sl D E) l J=some (.v (.int .i64 (E.length:Nat))):=bX (el:=170) Y
@[simp] theorem Vs:eO prog 151 (.sl D E) l J=some (.v (.int .i64 (E.length:Nat))):=bX (el:=162) Y
@[simp] theorem Vq:eO prog 218 (.sl D E) l J=some (.v (.int .i64 (E.length:Nat))):=bX (el:=254) Y
attribute [simp] K5
end
theorem sF {k:IntKind} {m:Int} {b:aU} (h:0<=m/\m<b.size):mn prog 9 (.v (.string b)) (.v (.int k m))=some (.v (.int .u8 ((b.data.toList.getD m.toNat 0).toNat:Nat))):=tix Y h
@[simp] theorem VK:bJ prog 2 5 (.v (.int n i)) r s=some (.v (.int .u8 (u8.wrap i))):=sJ Y Y
@[simp] theorem Nw:bJ prog 2 301 (.v (.int n i)) r s=some (.v (.int .u64 (u64.wrap i))):=sJ Y Y
@[simp] theorem VJ:bJ prog 3 5 (.v (.int n i)) r s=some (.v (.int .u8 (u8.wrap i))):=sJ Y Y
@[simp] theorem Nq:bJ prog 3 301 (.v (.int n i)) r s=some (.v (.int .u64 (u64.wrap i))):=sJ Y Y
@[simp] theorem Np:bJ prog 3 332 (.v (.int n i)) r s=some (.v (.int .u64 (u64.wrap i))):=sJ Y Y
@[simp] theorem VH:bJ prog 5 2 (.v (.int n i)) r s=some (.v (.int .i64 (i64.wrap i))):=sJ Y Y
@[simp] theorem VG:bJ prog 5 3 (.v (.int n i)) r s=some (.v (.int .i64 (i64.wrap i))):=sJ Y Y
@[simp] theorem No:bJ prog 5 301 (.v (.int n i)) r s=some (.v (.int .u64 (u64.wrap i))):=sJ Y Y
@[simp] theorem Nv:bJ prog 301 2 (.v (.int n i)) r s=some (.v (.int .i64 (i64.wrap i))):=sJ Y Y
@[simp] theorem Nu:bJ prog 301 3 (.v (.int n i)) r s=some (.v (.int .i64 (i64.wrap i))):=sJ Y Y
@[simp] theorem Nt:bJ prog 301 5 (.v (.int n i)) r s=some (.v (.int .u8 (u8.wrap i))):=sJ Y Y
@[simp] theorem Iw:bJ prog 301 344 (.v (.int n i)) r s=some (.v (.int .u32 (u32.wrap i))):=sJ Y Y
@[simp] theorem Ns:bJ prog 332 3 (.v (.int n i)) r s=some (.v (.int .i64 (i64.wrap i))):=sJ Y Y
@[simp] theorem Iv:bJ prog 332 344 (.v (.int n i)) r s=some (.v (.int .u32 (u32.wrap i))):=sJ Y Y
@[simp] theorem Nr:bJ prog 344 5 (.v (.int n i)) r s=some (.v (.int .u8 (u8.wrap i))):=sJ Y Y
@[simp] theorem Iu:bJ prog 344 301 (.v (.int n i)) r s=some (.v (.int .u64 (u64.wrap i))):=sJ Y Y
@[simp] theorem It:bJ prog 344 332 (.v (.int n i)) r s=some (.v (.int .u64 (u64.wrap i))):=sJ Y Y
end T
namespace V
open Go
variable {a b c d e f g:Nat} {u v w:Value} {i j k:Int} {t:TypeId} {p:List Value} {q:Bool} {n:IntKind}
theorem u5:prog.underlying 5=some (.int .u8):=Y
theorem u2:prog.underlying 2=some (.int .i64):=Y
theorem u3:prog.underlying 3=some (.int .i64):=Y
theorem nB {P:aB}:aj P (program:Sem aB)=some P:=rfl
theorem Kw {P:aB} (h:P.underlying t=some (.int n)):aj P (isAgg t)=some false:=by unfold isAgg;rw [ar,dr h];rfl
theorem bL {P:aB} (h:P.underlying t=some (.int n)) {b:Array aq} (c:b[a]? =some u):aj P (part t b a)=some u:=by unfold part;rw [ar,Kw h];simp only [zR,xA,if_false,c];rfl
theorem cA {P:aB} (h:P.underlying t=some (.int n)) (d:Nat) (c:IntKind) (a b:Int):aj P (Op.equalIn (d+1) t (.int c a) (.int c b))=some (a==b):=by rw [Op.equalIn,ar,dr h];simp;rfl
theorem jL {P:aB} (h:P.eqGuardType P.depth t=false) (a:BinOp) (b c:Array aq):aj P (eqGuard a t (.tmp 0) (.tmp 0) (.agg b) (.agg c))=some ():=by cases a <;> first|rfl|(show aj P (if (!P.eqGuardType P.depth t)=true then pure () else _)=some ();rw [h];rfl)
theorem K0:prog.underlying 156=some (.struct #[{name:= "Kind",type:=5,offset:=0,embedded:=false,tag:= "",pkgPath:= "",byteOffset:=0},{name:= "Of",type:=3,offset:=1,embedded:=false,tag:= "",pkgPath:= "",byteOffset:=8}]):=Y
theorem Wq:prog.stoodInHeld 156=false:=Y
theorem Er:prog.eqGuardType prog.depth 156=false:=Y
theorem Ew (d:Nat) (a0 a1 a b:Int):aj prog (Op.equalIn (d+2) 156 (.agg #[.int .u8 a0,.int .i64 a1]) (.agg #[.int .u8 a,.int .i64 b]))=some (decide (a0=a/\a1=b)):=by rw [Op.equalIn,ar,dr K0];simp;rw [ar,nB];simp;by_cases c:a0=a;rotate_left;simp [ar,ay,bL u5,cA u5,c];by_cases e:a1=b;rotate_left;simp [ar,ay,bL u3,cA u3,bL u5,cA u5,c,e];simp [ar,ay,bL u3,cA u3,bL u5,cA u5,c,e]
theorem QX (a0 a1 a b:Int):cZ prog .eql 156 (.agg #[.int .u8 a0,.int .i64 a1]) (.agg #[.int .u8 a,.int .i64 b])=some (.bool (decide (a0=a/\a1=b))):=by refine bE rfl rfl rfl (jL Er _ _ _) ?_ rfl;show aj _ (do pure (Value.bool (<-Op.equalIn (9998+2) 156 _ _)))=_;rw [ar,Ew];rfl
theorem Pf (a0 a1 a b:Int):cZ prog .neq 156 (.agg #[.int .u8 a0,.int .i64 a1]) (.agg #[.int .u8 a,.int .i64 b])=some (.bool (!decide (a0=a/\a1=b))):=by refine bE rfl rfl rfl (jL Er _ _ _) ?_ rfl;show aj _ (do pure (Value.bool (!(<-Op.equalIn (9998+2) 156 _ _))))=_;rw [ar,Ew];rfl
theorem JZ:prog.underlying 270=some (.struct #[{name:= "Re",type:=2,offset:=0,embedded:=false,tag:= "",pkgPath:= "",byteOffset:=0},{name:= "Im",type:=2,offset:=1,embedded:=false,tag:= "",pkgPath:= "",byteOffset:=8}]):=Y
theorem Wp:prog.stoodInHeld 270=false:=Y
theorem LH:prog.eqGuardType prog.depth 270=false:=Y
theorem LM (d:Nat) (a0 a1 a b:Int):aj prog (Op.equalIn (d+2) 270 (.agg #[.int .i64 a0,.int .i64 a1]) (.agg #[.int .i64 a,.int .i64 b]))=some (decide (a0=a/\a1=b)):=by rw [Op.equalIn,ar,dr JZ];simp;rw [ar,nB];simp;by_cases c:a0=a;rotate_left;simp [ar,ay,bL u2,cA u2,c];by_cases e:a1=b;rotate_left;simp [ar,ay,bL u2,cA u2,c,e];simp [ar,ay,bL u2,cA u2,c,e]
theorem QW (a0 a1 a b:Int):cZ prog .eql 270 (.agg #[.int .i64 a0,.int .i64 a1]) (.agg #[.int .i64 a,.int .i64 b])=some (.bool (decide (a0=a/\a1=b))):=by refine bE rfl rfl rfl (jL LH _ _ _) ?_ rfl;show aj _ (do pure (Value.bool (<-Op.equalIn (9998+2) 270 _ _)))=_;rw [ar,LM];rfl
theorem O6:prog.underlying 45=some (.struct #[{name:= "Kind",type:=5,offset:=0,embedded:=false,tag:= "",pkgPath:= "",byteOffset:=0},{name:= "Trap",type:=5,offset:=1,embedded:=false,tag:= "",pkgPath:= "",byteOffset:=1},{name:= "Line",type:=3,offset:=2,embedded:=false,tag:= "",pkgPath:= "",byteOffset:=8}]):=Y
theorem a0n:prog.stoodInHeld 45=false:=Y
theorem QN:prog.eqGuardType prog.depth 45=false:=Y
theorem QV (d:Nat) (a0 a1 a2 b c e:Int):aj prog (Op.equalIn (d+2) 45 (.agg #[.int .u8 a0,.int .u8 a1,.int .i64 a2]) (.agg #[.int .u8 b,.int .u8 c,.int .i64 e]))=some (decide (a0=b/\a1=c/\a2=e)):=by rw [Op.equalIn,ar,dr O6];simp;rw [ar,nB];simp;by_cases a:a0=b;rotate_left;simp [ar,ay,bL u5,cA u5,a];by_cases f:a1=c;rotate_left;simp [ar,ay,bL u5,cA u5,a,f];by_cases g:a2=e;rotate_left;simp [ar,ay,bL u3,cA u3,bL u5,cA u5,a,f,g];simp [ar,ay,bL u3,cA u3,bL u5,cA u5,a,f,g]
theorem a0p (a0 a1 a2 a b c:Int):cZ prog .eql 45 (.agg #[.int .u8 a0,.int .u8 a1,.int .i64 a2]) (.agg #[.int .u8 a,.int .u8 b,.int .i64 c])=some (.bool (decide (a0=a/\a1=b/\a2=c))):=by refine bE rfl rfl rfl (jL QN _ _ _) ?_ rfl;show aj _ (do pure (Value.bool (<-Op.equalIn (9998+2) 45 _ _)))=_;rw [ar,QV];rfl
theorem O5:prog.underlying 96=some (.struct #[{name:= "Kind",type:=5,offset:=0,embedded:=false,tag:= "",pkgPath:= "",byteOffset:=0},{name:= "N",type:=2,offset:=1,embedded:=false,tag:= "",pkgPath:= "",byteOffset:=8},{name:= "Re",type:=2,offset:=2,embedded:=false,tag:= "",pkgPath:= "",byteOffset:=16},{name:= "Im",type:=2,offset:=3,embedded:=false,tag:= "",pkgPath:= "",byteOffset:=24}]):=Y
theorem a0m:prog.stoodInHeld 96=false:=Y
theorem QM:prog.eqGuardType prog.depth 96=false:=Y
theorem QU (d:Nat) (a0 a1 a2 a3 c e f b3:Int):aj prog (Op.equalIn (d+2) 96 (.agg #[.int .u8 a0,.int .i64 a1,.int .i64 a2,.int .i64 a3]) (.agg #[.int .u8 c,.int .i64 e,.int .i64 f,.int .i64 b3]))=some (decide (a0=c/\a1=e/\a2=f/\a3=b3)):=by rw [Op.equalIn,ar,dr O5];simp;rw [ar,nB];simp;by_cases a:a0=c;rotate_left;simp [ar,ay,bL u5,cA u5,a];by_cases b:a1=e;rotate_left;simp [ar,ay,bL u2,cA u2,bL u5,cA u5,a,b];by_cases g:a2=f;rotate_left;simp [ar,ay,bL u2,cA u2,bL u5,cA u5,a,b,g];by_cases h:a3=b3;rotate_left;simp [ar,ay,bL u2,cA u2,bL u5,cA u5,a,b,g,h];simp [ar,ay,bL u2,cA u2,bL u5,cA u5,a,b,g,h]
theorem Z7 (a0 a1 a2 a3 a b c b3:Int):cZ prog .neq 96 (.agg #[.int .u8 a0,.int .i64 a1,.int .i64 a2,.int .i64 a3]) (.agg #[.int .u8 a,.int .i64 b,.int .i64 c,.int .i64 b3])=some (.bool (!decide (a0=a/\a1=b/\a2=c/\a3=b3))):=by refine bE rfl rfl rfl (jL QM _ _ _) ?_ rfl;show aj _ (do pure (Value.bool (!(<-Op.equalIn (9998+2) 96 _ _))))=_;rw [ar,QU];rfl
end V
namespace T
open Go V Q
variable {a b c d e f g:Nat} {u v w:Value} {i j k:Int} {t:TypeId} {p:List Value} {q:Bool} {n:IntKind}
theorem CM (a0 a1 a b:Int):cm prog .eql 156 (.ag [.v (.int .u8 a0),.v (.int .i64 a1)]) (.ag [.v (.int .u8 a),.v (.int .i64 b)])=some (B (decide (a0=a/\a1=b))):=by unfold cm;simp only [iF,nQ,zM];rw [QX];rfl
theorem CJ (a0 a1 a b:Int):cm prog .neq 156 (.ag [.v (.int .u8 a0),.v (.int .i64 a1)]) (.ag [.v (.int .u8 a),.v (.int .i64 b)])=some (B (!decide (a0=a/\a1=b))):=by unfold cm;simp only [iF,nQ,zM];rw [Pf];rfl
theorem CK (a0 a1 a b:Int):cm prog .eql 270 (.ag [.v (.int .i64 a0),.v (.int .i64 a1)]) (.ag [.v (.int .i64 a),.v (.int .i64 b)])=some (B (decide (a0=a/\a1=b))):=by unfold cm;simp only [iF,nQ,zM];rw [QW];rfl
theorem Gs (a0 a1 a2 a b c:Int):cm prog .eql 45 (.ag [.v (.int .u8 a0),.v (.int .u8 a1),.v (.int .i64 a2)]) (.ag [.v (.int .u8 a),.v (.int .u8 b),.v (.int .i64 c)])=some (B (decide (a0=a/\a1=b/\a2=c))):=by unfold cm;simp only [iF,nQ,zM];rw [a0p];rfl
theorem Gr (a0 a1 a2 a3 a b c b3:Int):cm prog .neq 96 (.ag [.v (.int .u8 a0),.v (.int .i64 a1),.v (.int .i64 a2),.v (.int .i64 a3)]) (.ag [.v (.int .u8 a),.v (.int .i64 b),.v (.int .i64 c),.v (.int .i64 b3)])=some (B (!decide (a0=a/\a1=b/\a2=c/\a3=b3))):=by unfold cm;simp only [iF,nQ,zM];rw [Z7];rfl
end T
namespace T
open Go V Q
variable {a b c d e f g:Nat} {u v w:Value} {i j k:Int} {t:TypeId} {p:List Value} {q:Bool} {n:IntKind} {x y z:TV} {r s:List TO}
theorem gp (a L:ae) (k:Nat):(a++L)[a.length+k]? =fp L k:=by rw [zH O,<-dS,show a.length+k-a.length=k by omega]
theorem gp0 (a L:ae):(a++L)[a.length]? =fp L 0:=gp a L 0
theorem sp (a L:ae) (k:Nat) (x:TO):(a++L).set (a.length+k) x=a++L.set k x:=by rw [List.set_append_right _ _ O,show a.length+k-a.length=k by omega]
theorem sp0 (a L:ae) (x:TO):(a++L).set a.length x=a++L.set 0 x:=sp a L 0 x
section
variable {P:aB} {D:aP} {l s:ae} {id E n fl az sz:Nat} {J y:TV} {h:Bool}
@[simp] theorem a2u:wr fl true id=Nat.ble fl id:=rfl
def Oo (h:Bool) (n E id fl:Nat) (l s:ae):Option TO->Option (TV×ae×ae)
 | some (.row a sz)=>if Nat.ble fl id=true then (part h n a E).map λJ=>(J,l,s.set id (.row (T.eP a E ((ce J).map dX)) sz)) else none
 | _=>none
@[simp] theorem On (a:ao):Oo h n E id fl l s (some (.row a sz))=if Nat.ble fl id=true then (part h n a E).map λJ=>(J,l,s.set id (.row (T.eP a E ((ce J).map dX)) sz)) else none:=rfl
@[simp] theorem Vh:gW h n fl l s (.p true id E)=Oo h n E id fl l s s[id]? :=by simp only [gW,T.ob,cond_true,wr,put];rcases s[id]? with _|o;rfl;cases o <;> rfl
def OJ (n E id fl:Nat) (J:TV) (l s:ae):Option TO->Option (ae×ae)
 | some (.row a sz)=>if Nat.ble fl id=true/\(ce J).length=n/\E+n<=a.length/\aW J/\As sz E n=true then some (l,s.set id (.row (T.eP a E (ce J)) sz)) else none
 | _=>none
@[simp] theorem OI (a:ao):OJ n E id fl J l s (some (.row a sz))=if Nat.ble fl id=true/\(ce J).length=n/\E+n<=a.length/\aW J/\As sz E n=true then some (l,s.set id (.row (T.eP a E (ce J)) sz)) else none:=rfl
@[simp] theorem Oa:cI n fl J l s (.p true id E)=OJ n E id fl J l s s[id]? :=by simp only [cI,T.ob,cond_true,wr,put];rcases s[id]? with _|o;rfl;cases o <;> rfl
def OH (n E az i sz id fl:Nat) (J:TV) (l s:ae):Option TO->Option (ae×ae)
 | some (.aY k z a)=>if k=az/\z=sz/\Nat.ble fl id/\z<1000000 then match a[i]? with
   | some e=>if (ce J).length=n/\E+n<=e.length/\mX ((ce J).map dX)=true then some (l,s.set id (.aY k z (a.set i (T.eP e E ((ce J).map dX))))) else none
   | none=>none
  else none
 | _=>none
@[simp] theorem OG (i k z:Nat) (a:cD):OH n E az i sz id fl J l s (some (.aY k z a))=if k=az/\z=sz/\Nat.ble fl id/\z<1000000 then match a[i]? with
   | some e=>if (ce J).length=n/\E+n<=e.length/\mX ((ce J).map dX)=true then some (l,s.set id (.aY k z (a.set i (T.eP e E ((ce J).map dX))))) else none
   | none=>none
  else none:=rfl
@[simp] theorem Ni (i:Nat):cI n fl J l s (.q true id az i sz E)=OH n E az i sz id fl J l s s[id]? :=by simp only [cI,T.ob,cond_true,wr,put];rcases s[id]? with _|o;rfl;cases o <;> rfl
def N5 (e b fl id az n sz:Nat) (a:cD) (l s:ae):Option TO->Option (TV×ae×ae)
 | some (.aY v z c)=>if v=az/\z=sz/\sz=e/\n<=c.length/\Nat.ble fl id/\T.cR 1 e a/\0<e/\fits (n+a.length) b=true then
   some (.m true id (az+1) 0 (n+a.length) sz,l,s.set id (.aY (az+1) z (c.take n++a))) else none
 | _=>none
@[simp] theorem tO (e b v z:Nat) (a c:cD):N5 e b fl id az n sz a l s (some (.aY v z c))=if v=az/\z=sz/\sz=e/\n<=c.length/\Nat.ble fl id/\T.cR 1 e a/\0<e/\fits (n+a.length) b=true then
   some (.m true id (az+1) 0 (n+a.length) sz,l,s.set id (.aY (az+1) z (c.take n++a))) else none:=rfl
theorem kI {e b an:Nat} {news:cD} (h:aO l s y=some news):cq true e b an fl (.m true id az 0 n sz) y l s=N5 e b fl id az n sz news l s s[id]? :=by simp only [cq,h,T.ob,cond_true,wr,put];rcases s[id]? with _|o;rfl;cases o <;> simp [N5]
theorem fB {k:Bool} {e b an:Nat} {news:cD} (h:aO l s y=some news):cq k e b an fl (.sl true []) y l s=if T.cR an e news=true/\fits news.length b/\0<e then if news=[] then some (.sl true [],l,s) else some (db an e news l s) else none:=by simp [cq,h]
theorem Ke {d c:cD} (h:aO l s y=some d):cq false a b 0 fl (.sl true c) y l s=if T.cR 0 a d=true/\T.cR 0 a c/\fits (c.length+d.length) b/\0<a then if c++d=[] then some (.sl true [],l,s) else some (.sl true (c++d),l,s) else none:=by simp only [cq,h,and_self,or_true,true_and,db]
@[simp] theorem Ag (o:Bool) (a:cD):aO l s (.sl o a)=some a:=rfl
def LN (id az E n sz:Nat):Option TO->Option (cD)
 | some (.aY k z b)=>if k=az/\z=sz/\E+n<=b.length then some ((b.drop E).take n) else none
 | some (.row a z)=>if z=sz/\sz=1/\az=0/\E+n<=a.length then some (((a.drop E).take n).map λc=>[c]) else none
 | _=>none
@[simp] theorem iR (k z:Nat) (a:cD):LN id az E n sz (some (.aY k z a))=if k=az/\z=sz/\E+n<=a.length then some ((a.drop E).take n) else none:=rfl
theorem fX:aO l s (.m true id az E n sz)=if n=0 then some [] else LN id az E n sz s[id]? :=by simp only [aO,T.ob,cond_true];rcases s[id]? with _|o;rfl;cases o <;> rfl
theorem jW:aO l s (.m false id az E n sz)=if n=0 then some [] else LN id az E n sz l[id]? :=by simp only [aO,T.ob,cond_false];rcases l[id]? with _|o;rfl;cases o <;> rfl
end
@[simp ↓] theorem a2T {X:CX} {k:TV->RA X}:mm k r s=nx k (.mp s.length) r (s++[.mp #[] 0]):=Eq.trans (Eq.refl _) (Eq.refl _)
@[simp] theorem a0K (a:cD):jz (.sl false a)= .sl false a:=by cases a <;> rfl
def gz (c b n sz:Nat):Option TO->eh
 | some (.aY k z a)=>if k=c/\z=sz/\b=0/\n=a.length/\T.cR 0 sz a=true then some (.sl false a) else none
 | _=>none
@[simp] theorem QT (c b n sz k z:Nat) (a:cD):gz c b n sz (some (.aY k z a))=if k=c/\z=sz/\b=0/\n=a.length/\T.cR 0 sz a=true then some (.sl false a) else none:=rfl
theorem Gi {n0 id sz:Nat} (h:n0<=id):jE n0 r (.m true id a b c sz)=gz a b c sz r[id]? :=by
 have e:Nat.blt id n0=false:=by cases d:Nat.blt id n0 with
  | false=>rfl
  | true=>have:=yN d;omega
 simp only [jE,e,cond_false];rcases r[id]? with _|o;rfl;cases o <;> rfl
def RW (k:jw) (v:TV) (a:ae):Prop:=Ha v=true/\k (bw v) a
theorem EW.of {f:Func} {i:(X:CX)->ao->RA X} {g:ao} {fl:Nat} {k:jw} (e:BE a f b i) (d:(AA.rw a&& !AA.aM a)) (m:g.length=b) (h:i (Xc prog fl (RW k)) g [] r):EN prog a g r fl k:=by
 rw [zN,xG] at d;have n:=e.ok;simp only [okF,zN] at n;obtain ⟨⟨s,t⟩,w⟩:=n;obtain ⟨c,j⟩:=xM.1 t;have q:cF f=c:=by unfold cF;rw [j];rfl
 refine Ends.of s e.hf j (by rw [m];exact yN w) ?_;have l:=e.eq (XP prog AA Pl dp (bif AA.rw a then fl else r.length) (Rt AA a r k)) g r m;rw [q] at l;apply cast l.symm;rw [d.1];have o:Rt AA a r k=RW k:=by
  funext v y;unfold Rt RW jq;rw [d.1,d.2];simp only [cond_true];cases x:Ha v with
  | false=>simp
  | true=>exact propext ⟨λ⟨_,_,p,h⟩=>⟨rfl,by cases p;exact h⟩,λ⟨_,h⟩=>⟨_,_,rfl,h⟩⟩
 rw [o];exact h
theorem EW.o {f:Func} {g:(X:CX)->ao->RA X} {d:ao} {k:jw} (e:BE a f b g) (h:g (Xc prog c (RW k)) d [] r) (j:(AA.rw a&& !AA.aM a):=by kernel_rfl) (i:d.length=b:=by rfl):EN prog a d r c k:=EW.of e j i h
@[simp] theorem a48 {k:jw}:RW k x r=(Ha x=true/\k (bw x) r):=Eq.trans (Eq.refl _) (Eq.refl _)
attribute [simp] Ha
end T
end Go.Proofs.YtglilpjokhgidaaGreatDoor
